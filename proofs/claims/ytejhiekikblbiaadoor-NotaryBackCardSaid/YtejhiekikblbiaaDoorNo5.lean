/-
  Chapter 36's laws: NotaryBack returns true. Condition: the package's table holds the constants.
-/
import Derived.Test.YtejhiekikblbiaaDoorNo4
import Derived.Test.YtejhiekikblbiaaDoorMgI
import Derived.OpenShut
import Derived.ProofKit
namespace Go.Proofs.YtejhiekikblbiaaDoor
open Go.RowKit Go.ChangeShapes Go.WideShapes

/-- Three strings. -/
def tripV (s : List UInt8 × List UInt8 × List UInt8) : Value := .agg #[.string (ofL s.1), .string (ofL s.2.1), .string (ofL s.2.2)]
set_option maxRecDepth 100000 in
set_option maxHeartbeats 4000000 in
theorem notaryBack_walk (m k t : List UInt8) (vs : Value) (ls : List (List UInt8)) (w : World) (hT : Tab w) (hs : Rd w w.heap.size 1 vs ls.length (ls.map Str)) :
    Calls Tryd.prog 7 #[.agg #[.string (ofL m), .string (ofL k), .string (ofL t)], vs] w fun e w' => e = .returned (.bool true) ∧ Ext w w' := by
  have cW := Kp.mk noworks_any
  have zm : (ofL m).size = m.length := size_ofL _
  have zk : (ofL k).size = k.length := size_ofL _
  have zt : (ofL t).size = t.length := size_ofL _
  have HSl := Kp.mk hs
  obtain ⟨As, cs, rfl, hsm, _, hsc⟩ := hs
  have HC := Kp.mk hsc
  obtain ⟨W0, hW0, E0, B1⟩ : ∃ W, w.alloc (.cells #[.string (ofL m), .string (ofL k), .string (ofL t)] 56) = W ∧ Ext w W ∧ Arr W w.heap.size 56 [.string (ofL m), .string (ofL k), .string (ofL t)] := ⟨_, rfl, (Ext.rfl' w).al _, Arr.new w _ [.string (ofL m), .string (ofL k), .string (ofL t)]⟩
  have cH := Kp.mk (fun (W : World) (hW : Ext w W) => short_any ls 8 1000 (.slice As ls.length cs) W (rd_at HSl.out hW) (by omega))
  have HW := Kp.mk hW0
  have q0 := B1.cell 0; have q1 := B1.cell 1; have q2 := B1.cell 2
  simp only [List.getElem?_cons_zero, List.getElem?_cons_succ] at q0 q1 q2
  clear hW0 hsc
  have F1 := E0
  by_cases g1 : 100 < m.length
  · go_enter Tryd.func7, Tryd.ntmps7
    go_upto_region 1 with fail
    rw [HW.out]
    go_wp2_with fail
    refine (cW.out _ (hT.ext F1)).mono ?_
    rintro e w9 ⟨rfl, E9⟩
    go_wp2
    go_ret
    exact ⟨rfl, F1.tr E9⟩
  · by_cases g2 : 100 < k.length
    · go_enter Tryd.func7, Tryd.ntmps7
      go_upto_region 1 with fail
      rw [HW.out]
      go_wp2_with fail
      refine (cW.out _ (hT.ext F1)).mono ?_
      rintro e w9 ⟨rfl, E9⟩
      go_wp2
      go_ret
      exact ⟨rfl, F1.tr E9⟩
    · by_cases g3 : 500 < t.length
      · go_enter Tryd.func7, Tryd.ntmps7
        go_upto_region 1 with fail
        rw [HW.out]
        go_wp2_with fail
        refine (cW.out _ (hT.ext F1)).mono ?_
        rintro e w9 ⟨rfl, E9⟩
        go_wp2
        go_ret
        exact ⟨rfl, F1.tr E9⟩
      · go_enter Tryd.func7, Tryd.ntmps7
        go_upto_region 1 with fail
        rw [HW.out]
        clear HW
        go_wp2_with fail
        refine (cH.out _ F1).mono ?_
        rintro e w2 ⟨rfl, E2⟩
        have F2 := F1.tr E2
        have C2 := B1.ext E2 B1.lt
        clear F1 B1 E0 E2 cH q0 q1 q2
        obtain ⟨sb, hsb⟩ : ∃ sb, shortL ls 8 1000 = sb := ⟨_, rfl⟩
        rw [hsb]
        cases sb with
        | false =>
          have F1 := F2
          clear hsb
          go_wp2_with fail
          refine (cW.out _ (hT.ext F1)).mono ?_
          rintro e w9 ⟨rfl, E9⟩
          go_wp2
          go_ret
          exact ⟨rfl, F1.tr E9⟩
        | true =>
          have hls8 : ls.length ≤ 8 := by
            unfold shortL at hsb
            rw [Bool.and_eq_true, decide_eq_true_eq, decide_eq_true_eq] at hsb
            exact hsb.1
          have hls1 := Kp.mk (show ∀ x ∈ ls, x.length ≤ 1000 from fun x hx => by
            unfold shortL at hsb
            rw [Bool.and_eq_true, decide_eq_true_eq, decide_eq_true_eq] at hsb
            have := mem_lenSum ls x hx
            omega)
          clear hsb
          have hrd := read_ticket (m := m) (n := nonceN) (k := k) (t := t) rfl (by omega)
          have htk := ticketR_ok (m := m) (n := nonceN) (k := k) (t := t) rfl (by omega)
          have lS := length_boxL m nonceN (frameL [k, t])
          rw [len_two] at lS
          obtain ⟨S, hS⟩ : ∃ S, boxL m nonceN (frameL [k, t]) = S := ⟨_, rfl⟩
          rw [hS] at hrd htk lS
          have lS : S.length ≤ 700 := by rw [lS]; show 16 + _ + 32 ≤ 700; omega
          have hok := addsL_ok ls ⟨S, [], rootL k S⟩ (by simp; omega) (fun c hc => by have := hls1.out c hc; omega)
          obtain ⟨hd1, hd2, hd3⟩ := addsL_tag k S ls ⟨S, [], rootL k S⟩ rfl rfl hok
          have hdis : dischargeR m S ls = addsL ⟨S, [], rootL k S⟩ ls := by rw [dischargeR_ok (by rw [hrd]), hrd]
          obtain ⟨D, hD⟩ : ∃ D, addsL ⟨S, [], rootL k S⟩ ls = D := ⟨_, rfl⟩
          rw [hD] at hok hd1 hd2 hd3 hdis
          obtain ⟨⟨di, dl, dt⟩, dx⟩ := D
          dsimp only at hok hd1 hd2 hd3
          subst hok hd1
          simp only [List.nil_append] at hd2
          have ldt : dt.length = 32 := by rw [hd3]; exact length_lastL _ _ _
          have hdl : dl.length = ls.length := by rw [hd2, List.length_map]
          have cT := Kp.mk (show ∀ W, Tab W → Calls Tryd.prog 34 #[.string (ofL m), .string ⟨#[48, 49, 50, 51, 52, 53, 54, 55, 56, 57, 97, 98, 99, 100, 101, 102]⟩, .string (ofL k), .string (ofL t)] W fun e w' => e = .returned (.tuple #[.string (ofL di), .int .i64 0]) ∧ Ext W w' from fun W h => by
            have q := ticket_any m nonceN k t W h (by omega) (by omega) (by omega)
            rw [htk] at q
            exact q)
          have cR := Kp.mk (show ∀ W, Tab W → Calls Tryd.prog 35 #[.string (ofL m), .string (ofL di)] W fun e w' => e = .returned (.tuple #[.string (ofL k), .string (ofL t), .int .i64 0]) ∧ Ext W w' from fun W h => by
            have q := read_any m di W h (by omega) (by omega)
            rw [hrd] at q
            exact q)
          have cD := Kp.mk (show ∀ W, Tab W → Ext w W → Calls Tryd.prog 36 #[.string (ofL m), .string (ofL di), .slice As ls.length cs] W fun e w' => ∃ v, e = .returned (.tuple #[.agg #[.string (ofL di), v, .string (ofL dt)], .int .i64 0]) ∧ w'.ownsRow W.heap.size 52 2 v ls.length (linkCells dl) ∧ Ext W w' from fun W h h2 => by
            have q := discharge_any m di As cs ls W h (by omega) (by omega) (rd_at HSl.out h2) (fun x hx => by have := hls1.out x hx; omega)
            rw [hdis] at q
            exact q.mono fun e w' ⟨v, h3, h4, h5⟩ => ⟨v, h3, own_eq h4 rfl hdl, h5⟩)
          have cL := Kp.mk (show ∀ (A : Option Addr) (c : Nat) (W : World), Tab W → RdLinks W W.heap.size (.slice A ls.length c) dl → Calls Tryd.prog 30 #[.string (ofL k), .agg #[.string (ofL di), .slice A ls.length c, .string (ofL dt)]] W fun e w' => e = .returned (.string (ofL dt)) ∧ Ext W w' from fun A c W h1 h2 => by
            have q := last_any k di dt (.slice A ls.length c) dl W h1 (by omega) (by omega) h2 (fun x hx => by
              rw [hd2] at hx
              obtain ⟨y, hy, rfl⟩ := List.mem_map.1 hx
              have := hls1.out y hy
              simp only [List.length_nil]
              omega) (by omega)
            rw [← hd3] at q
            exact q)
          have HD2 := Kp.mk hd2
          clear hrd htk hS hdis hD hd2 hd3
          have q0 := C2.cell 0; have q1 := C2.cell 1; have q2 := C2.cell 2
          simp only [List.getElem?_cons_zero, List.getElem?_cons_succ] at q0 q1 q2
          go_wp2_with fail
          refine (cT.out _ (hT.ext F2)).mono ?_
          rintro e w3 ⟨rfl, E3⟩
          have F3 := F2.tr E3
          have C3 := C2.ext E3 C2.lt
          clear q0 q1 q2 C2 F2 E3
          have q0 := C3.cell 0; have q1 := C3.cell 1; have q2 := C3.cell 2
          simp only [List.getElem?_cons_zero, List.getElem?_cons_succ] at q0 q1 q2
          go_wp2_with fail
          refine (cR.out _ (hT.ext F3)).mono ?_
          rintro e w4 ⟨rfl, E4⟩
          have F4 := F3.tr E4
          have C4 := C3.ext E4 C3.lt
          clear q0 q1 q2 C3 F3 E4
          have q0 := C4.cell 0; have q1 := C4.cell 1; have q2 := C4.cell 2
          simp only [List.getElem?_cons_zero, List.getElem?_cons_succ] at q0 q1 q2
          go_wp2_with fail
          refine (cD.out _ (hT.ext F4) F4).mono ?_
          rintro e w5 ⟨v, rfl, own, E5⟩
          obtain ⟨Av, cv, rfl⟩ := own_slice own
          have F5 := F4.tr E5
          obtain ⟨W6, hW6, G6, B6⟩ := tokbox w5 (.string (ofL di)) (.slice Av ls.length cv) (.string (ofL dt))
          have HW6 := Kp.mk hW6
          have C6 := C4.ext (E5.tr G6) C4.lt
          have L6 : RdLinks W6 W6.heap.size (.slice Av ls.length cv) dl := rd_at (own_links own hdl.symm) G6
          have F6 := F5.tr G6
          clear hW6 own C4 F4 E5 F5 G6 q0 q1 q2
          go_upto_region 6 with fail
          rw [HW6.out]
          have r0 := B6.cell 0; have r1 := B6.cell 1; have r2 := B6.cell 2
          have q0 := C6.cell 0; have q1 := C6.cell 1; have q2 := C6.cell 2
          simp only [List.getElem?_cons_zero, List.getElem?_cons_succ] at q0 q1 q2 r0 r1 r2
          clear HW6
          go_wp2_with fail
          go_loopw [12] (fun i wr => ∃ j : Nat, j ≤ ls.length ∧ i = .int .i64 j ∧ Ext W6 wr) (fun i _ => ls.length - (intOf i).toNat)
          case atStart => exact ⟨0, by omega, rfl, Ext.rfl' _⟩
          case round =>
            obtain ⟨j, hj, rfl, hE⟩ := hrel
            clear q0 q1 q2 r0 r1 r2
            by_cases hlt : j < ls.length
            · obtain ⟨bk, ok, rfl, hbk, hc⟩ := HC.out (by omega)
              obtain ⟨s, hs⟩ : ∃ s, ls[j] = s := ⟨_, rfl⟩
              have q := Kp.mk (show ∀ W, Ext w W → W.cell? ⟨bk, ok + j, none⟩ = some (.string (ofL s)) from fun W hW => by
                have h := hc j (.string (ofL s)) (by rw [List.getElem?_map, List.getElem?_eq_getElem hlt, hs]; rfl)
                exact ((bcell hW).1 bk _ hbk).trans h)
              obtain ⟨A', c', e, _, hlc⟩ := L6.cells
              obtain ⟨rfl, rfl⟩ : Av = A' ∧ cv = c' := by injection e with e1 e2 e3; exact ⟨e1, e3⟩
              obtain ⟨bl, ol, rfl, hbl, hlc⟩ := hlc (by omega)
              have hlj : j < dl.length := by omega
              have hdj : dl[j] = (s, []) := by simp only [HD2.out, List.getElem_map, hs]
              have p := Kp.mk (show ∀ W, Ext W6 W → W.cell? ⟨bl, ol + j * 2, none⟩ = some (.string (ofL s)) ∧ W.cell? ⟨bl, ol + j * 2 + 1, none⟩ = some (.string ⟨#[]⟩) from fun W hW => by
                have h := hlc j hlj
                rw [hdj] at h
                exact ⟨((bcell hW).1 bl _ hbl).trans h.1, ((bcell hW).1 bl _ hbl).trans h.2⟩)
              have hle := Kp.mk (show ∀ W, (binOp .neq 52 (.agg #[.string (ofL s), .string ⟨#[]⟩]) (.agg #[.string (ofL s), .string ⟨#[]⟩])).run Tryd.prog W = .ok (.bool false) W from fun W => by
                have h := link_neq (s, []) (s, []) W
                rw [(linkEq_iff _ _).2 rfl] at h
                exact h)
              clear hc hs hlc hdj e
              go_upto_region 11 with fail
              refine wp_region_stage [] (fun bs W => Ext wr W) (fun bs i v W => match i with
                | 0 => v = .pointer (some ⟨w5.heap.size, 1, none⟩)
                | 1 => v = .slice (some ⟨bl, ol, none⟩) ls.length cv
                | 2 => v = .int .i64 j
                | 3 => v = .pointer (some ⟨bl, ol + j * 2, none⟩)
                | 4 => v = .agg #[.string (ofL s), .string ⟨#[]⟩]
                | 5 => v = .slice (some ⟨bk, ok, none⟩) ls.length cs
                | 6 => v = .int .i64 j
                | 7 => v = .pointer (some ⟨bk, ok + j, none⟩)
                | 8 => v = .string (ofL s)
                | 9 => v = .agg #[.string (ofL s), .string ⟨#[]⟩]
                | 10 => v = .bool false
                | _ => True) (cs_inj (by decide)) (by decide) (by kernel_rfl) (by kernel_rfl) (by kernel_rfl) ((Ext.rfl' wr).dr) (fun bs W1 W2 h e => h.tr e) ?_ ?_ ?_
              · intro bs i v W1 W2 e1 e2 h
                match i, h with
                | 0, h => exact h
                | 1, h => exact h
                | 2, h => exact h
                | 3, h => exact h
                | 4, h => exact h
                | 5, h => exact h
                | 6, h => exact h
                | 7, h => exact h
                | 8, h => exact h
                | 9, h => exact h
                | 10, h => exact h
                | (i + 11), h => exact h
              · refine localsQ_ord (by decide) (fun bs u W hbs hW hno hd => leaves_val rfl (v := .pointer (some ⟨w5.heap.size, 1, none⟩)) (by go_simp) rfl) ?_
                refine localsQ_ord (by decide) (fun bs u W hbs hW hno hd => ?_) ?_
                · have h0 : u 0 = _ := hd 0 (by kernel_rfl)
                  have r1 := (B6.ext (hE.tr hW) B6.lt).cell 1
                  simp only [List.getElem?_cons_zero, List.getElem?_cons_succ] at r1
                  exact leaves_val rfl (v := .slice (some ⟨bl, ol, none⟩) ls.length cv) (by go_simp) rfl
                refine localsQ_ord (by decide) (fun bs u W hbs hW hno hd => leaves_val rfl (v := .int .i64 j) (by go_simp) rfl) ?_
                refine localsQ_ord (by decide) (fun bs u W hbs hW hno hd => ?_) ?_
                · have h1 : u 1 = _ := hd 1 (by kernel_rfl)
                  have h2 : u 2 = _ := hd 2 (by kernel_rfl)
                  exact leaves_val rfl (v := .pointer (some ⟨bl, ol + j * 2, none⟩)) (by go_simp) rfl
                refine localsQ_ord (by decide) (fun bs u W hbs hW hno hd => ?_) ?_
                · have h3 : u 3 = _ := hd 3 (by kernel_rfl)
                  obtain ⟨r0, r1⟩ := p.out W (hE.tr hW)
                  exact leaves_val rfl (v := .agg #[.string (ofL s), .string ⟨#[]⟩]) (by go_simp) rfl
                refine localsQ_ord (by decide) (fun bs u W hbs hW hno hd => leaves_val rfl (v := .slice (some ⟨bk, ok, none⟩) ls.length cs) (by go_simp) rfl) ?_
                refine localsQ_ord (by decide) (fun bs u W hbs hW hno hd => leaves_val rfl (v := .int .i64 j) (by go_simp) rfl) ?_
                refine localsQ_ord (by decide) (fun bs u W hbs hW hno hd => ?_) ?_
                · have h5 : u 5 = _ := hd 5 (by kernel_rfl)
                  have h6 : u 6 = _ := hd 6 (by kernel_rfl)
                  exact leaves_val rfl (v := .pointer (some ⟨bk, ok + j, none⟩)) (by go_simp) rfl
                refine localsQ_ord (by decide) (fun bs u W hbs hW hno hd => ?_) ?_
                · have h7 : u 7 = _ := hd 7 (by kernel_rfl)
                  have r0 := q.out W (F6.tr (hE.tr hW))
                  exact leaves_val rfl (v := .string (ofL s)) (by go_simp) rfl
                refine localsQ_ord (by decide) (fun bs u W hbs hW hno hd => ?_) ?_
                · have h8 : u 8 = _ := hd 8 (by kernel_rfl)
                  exact leaves_val rfl (v := .agg #[.string (ofL s), .string ⟨#[]⟩]) (by go_simp) rfl
                refine localsQ_ord (by decide) (fun bs u W hbs hW hno hd => ?_) localsQ_nil
                · have h4 : u 4 = _ := hd 4 (by kernel_rfl)
                  have h9 : u 9 = _ := hd 9 (by kernel_rfl)
                  have hle := hle.out
                  exact leaves_val rfl (v := .bool false) (by go_simp) rfl
              · intro u W E hV
                have h10 : u 10 = .bool false := hV 10 (by decide)
                clear hV
                go_simp
                go_wp2
                go_roundw
                case rel => exact ⟨j + 1, by omega, by go_num, hE.tr E⟩
                case measure => simp [intOf]; omega
            · have C7 := C6.ext hE C6.lt
              have B7 := B6.ext hE B6.lt
              have L7 := rd_at L6 hE
              have F7 := F6.tr hE
              clear C6 B6 L6 F6 hE
              go_upto_region 13 with fail
              refine wp_region_stage [] (fun bs W => Ext wr W) (fun bs i v W => match i with
                | 0 => v = .pointer (some ⟨w5.heap.size, 2, none⟩)
                | 1 => v = .string (ofL dt)
                | 2 => v = .pointer (some ⟨w.heap.size, 1, none⟩)
                | 3 => v = .string (ofL k)
                | 4 => v = .agg #[.string (ofL di), .slice Av ls.length cv, .string (ofL dt)]
                | 5 => v = .string (ofL dt)
                | 6 => v = .bool true
                | 7 => v = .bool true
                | 8 => v = .bool true
                | 9 => v = .bool true
                | 10 => v = .bool true
                | _ => True) (cs_inj (by decide)) (by decide) (by kernel_rfl) (by kernel_rfl) (by kernel_rfl) ((Ext.rfl' wr).dr) (fun bs W1 W2 h e => h.tr e) ?_ ?_ ?_
              · intro bs i v W1 W2 e1 e2 h
                match i, h with
                | 0, h => exact h
                | 1, h => exact h
                | 2, h => exact h
                | 3, h => exact h
                | 4, h => exact h
                | 5, h => exact h
                | 6, h => exact h
                | 7, h => exact h
                | 8, h => exact h
                | 9, h => exact h
                | 10, h => exact h
                | (i + 11), h => exact h
              · refine localsQ_ord (by decide) (fun bs u W hbs hW hno hd => leaves_val rfl (v := .pointer (some ⟨w5.heap.size, 2, none⟩)) (by go_simp) rfl) ?_
                refine localsQ_ord (by decide) (fun bs u W hbs hW hno hd => ?_) ?_
                · have h0 : u 0 = _ := hd 0 (by kernel_rfl)
                  have r1 := (B7.ext hW B7.lt).cell 2
                  simp only [List.getElem?_cons_zero, List.getElem?_cons_succ] at r1
                  exact leaves_val rfl (v := .string (ofL dt)) (by go_simp) rfl
                refine localsQ_ord (by decide) (fun bs u W hbs hW hno hd => leaves_val rfl (v := .pointer (some ⟨w.heap.size, 1, none⟩)) (by go_simp) rfl) ?_
                refine localsQ_ord (by decide) (fun bs u W hbs hW hno hd => ?_) ?_
                · have h2 : u 2 = _ := hd 2 (by kernel_rfl)
                  have r1 := (C7.ext hW C7.lt).cell 1
                  simp only [List.getElem?_cons_zero, List.getElem?_cons_succ] at r1
                  exact leaves_val rfl (v := .string (ofL k)) (by go_simp) rfl
                refine localsQ_ord (by decide) (fun bs u W hbs hW hno hd => ?_) ?_
                · have r0 := (B7.ext hW B7.lt).cell 0; have r1 := (B7.ext hW B7.lt).cell 1; have r2 := (B7.ext hW B7.lt).cell 2
                  simp only [List.getElem?_cons_zero, List.getElem?_cons_succ] at r0 r1 r2
                  exact leaves_val rfl (v := .agg #[.string (ofL di), .slice Av ls.length cv, .string (ofL dt)]) (by go_simp) rfl
                refine localsQ_ord (by decide) (fun bs u W hbs hW hno hd => ?_) ?_
                · have h3 : u 3 = _ := hd 3 (by kernel_rfl)
                  have h4 : u 4 = _ := hd 4 (by kernel_rfl)
                  exact leaves_call rfl (f := 30) (args := #[.string (ofL k), .agg #[.string (ofL di), .slice Av ls.length cv, .string (ofL dt)]]) (by go_simp) ((cL.out _ _ W (hT.ext (F7.tr hW)) (rd_at L7 hW)).mono (by rintro e9 W9 ⟨rfl, h9⟩; exact ⟨_, rfl, h9, rfl⟩))
                refine localsQ_ord (by decide) (fun bs u W hbs hW hno hd => ?_) ?_
                · have h1 : u 1 = _ := hd 1 (by kernel_rfl)
                  have h5 : u 5 = _ := hd 5 (by kernel_rfl)
                  exact leaves_val rfl (v := .bool true) (by go_simp) rfl
                refine localsQ_ord (by decide) (fun bs u W hbs hW hno hd => ?_) ?_
                · have h6 : u 6 = _ := hd 6 (by kernel_rfl)
                  exact leaves_val rfl (v := .bool true) (by go_simp) rfl
                refine localsQ_ord (by decide) (fun bs u W hbs hW hno hd => ?_) ?_
                · have h7 : u 7 = _ := hd 7 (by kernel_rfl)
                  exact leaves_call (by simp [Region.wanted, yielded, go_sem, h7]) (f := 33) (args := #[]) (by go_simp) ((cW.out W (hT.ext (F7.tr hW))).mono (by rintro e9 W9 ⟨rfl, h9⟩; exact ⟨_, rfl, h9, rfl⟩))
                refine localsQ_ord (by decide) (fun bs u W hbs hW hno hd => ?_) ?_
                · have h7 : u 7 = _ := hd 7 (by kernel_rfl)
                  have h8 : u 8 = _ := hd 8 (by kernel_rfl)
                  exact leaves_val rfl (v := .bool true) (by go_simp) rfl
                refine localsQ_ord (by decide) (fun bs u W hbs hW hno hd => ?_) localsQ_nil
                · have h9 : u 9 = _ := hd 9 (by kernel_rfl)
                  exact leaves_val rfl (v := .bool true) (by go_simp) rfl
              · intro u W E hV
                have h10 : u 10 = .bool true := hV 10 (by decide)
                clear hV
                go_simp
                go_wp2
                exact bodyPost_ret (v := .bool true) (by simp [results, Tryd.results7, go_sem]) rfl ⟨rfl, F7.tr E⟩
set_option maxRecDepth 100000 in
theorem trip_open {H : Type} {enc : TypeId × Value → H} {W : World} {r : Reach} {b0 : Nat} {v : Value} {d : DataW H} {ps : List MemPlace}
    (hv : Value.okWide Tryd.prog W r b0 56 v) (h : DataW.Trod enc Tryd.prog W 0 (fun _ => true) true 56 v d ps) : ∃ s, v = tripV s ∧ True := by
  have hct : Tryd.prog.cellsOf 56 = 3 := by kernel_rfl
  have hce : Tryd.prog.cellsOf 9 = 1 := by kernel_rfl
  obtain ⟨cs, rfl, hsz⟩ : ∃ cs, v = .agg cs ∧ cs.size = 3 := by
    simp only [Value.okWide, Tryd.underlying56] at hv
    obtain ⟨cs, h1, h2, _⟩ := hv
    exact ⟨cs, h1, h2.trans hct⟩
  obtain ⟨fuel, hf⟩ := h
  obtain ⟨xs, m, _, _, _, hxl, hel⟩ := DataW.trod_array Tryd.underlying56 hf
  have each : ∀ i, i < 3 → ∃ x : List UInt8, cs[i]? = some (.string (ofL x)) := fun i hi => by
    have h1 := hel i hi
    rw [hce, List.getElem?_eq_getElem (by omega)] at h1
    obtain ⟨n, h2, _, _⟩ := DataW.trod_string Tryd.underlying9 h1
    have h3 : cs.toList[i]? = some (.string n) := by
      have := congrArg (·[0]?) h2
      simpa [List.getElem?_take, List.getElem?_drop, Value.cells] using this
    rw [Array.getElem?_toList] at h3
    exact ⟨toL n, by rw [h3, ofL_toL]⟩
  obtain ⟨x0, k0⟩ := each 0 (by omega)
  obtain ⟨x1, k1⟩ := each 1 (by omega)
  obtain ⟨x2, k2⟩ := each 2 (by omega)
  refine ⟨⟨x0, x1, x2⟩, ?_, trivial⟩
  unfold tripV
  congr 1
  apply Array.ext_getElem?
  intro i
  match i with
  | 0 => exact k0
  | 1 => exact k1
  | 2 => exact k2
  | i + 3 => rw [Array.getElem?_eq_none (by omega), Array.getElem?_eq_none (by simp)]
theorem notaryBack_walk2 (s : List UInt8 × List UInt8 × List UInt8) (v : Value) (ls : List (List UInt8)) (w : World) (hT : Tab w) (_ : True) (hr : Rd w w.heap.size 1 v ls.length (ls.map Str)) (_ : ls.length ≤ maxLen) (_ : ∀ s ∈ ls, s.length ≤ maxLen) : Calls Tryd.prog 7 #[tripV s, v] w fun e w' => e = .returned (.bool true) ∧ Ext w w' :=
  notaryBack_walk s.1 s.2.1 s.2.2 v ls w hT hr
end Go.Proofs.YtejhiekikblbiaaDoor
