/-
  Chapter 37's laws: VerifyOne returns true. Condition: the package's table holds the constants.
-/
import Derived.Test.YtejhiekikblbiaaDoorVe6
import Derived.Test.YtejhiekikblbiaaDoorCh12a
namespace Go.Proofs.YtejhiekikblbiaaDoor
open Go.RowKit

theorem two_toks (w : World) (a b c a' b' c' : Value) : ∃ W, ((w.alloc (.cells #[a, b, c] 24)).alloc (.cells #[a', b', c'] 24)) = W ∧ Ext w W ∧
    Arr W w.heap.size 24 [a, b, c] ∧ Arr W (w.heap.size + 1) 24 [a', b', c'] := by
  refine ⟨_, rfl, ((Ext.rfl' w).al _).al _, (Arr.new w 24 [a, b, c]).alloc _, ?_⟩
  have q := Arr.new (w.alloc (.cells #[a, b, c] 24)) 24 [a', b', c']
  rw [World.size_alloc] at q
  exact q
theorem small_ok {id tag : List UInt8} {A : Option Addr} {c : Nat} {l : List LinkL} (h : Small id tag l) : OkT ⟨id, tag, A, c, l⟩ := ⟨by have := h.1; dsimp only; omega, by have := h.2.1; dsimp only; omega, fun x hx => by have := h.2.2.2.1 x hx; omega, by have := h.2.2.1; dsimp only; omega⟩
theorem small_shortV {id tag : List UInt8} {l : List LinkL} (h : Small id tag l) : Short1 l := fun x hx => by have := h.2.2.2.1 x hx; omega
theorem rd_partsV {w w' : World} {e : TypeId} {n : Nat} {xs : List Value} {en : Ending} (h : RetOwn w e 1 n xs en w') : ∃ v, en = .returned v ∧ Ext w w' ∧ Rd w' w'.heap.size 1 v n xs := by
  obtain ⟨v, h1, h2, h3⟩ := h
  exact ⟨v, h1, h3, Rd.own h2 (by decide)⟩
theorem ok_tag {id tag T : List UInt8} {A : Option Addr} {c : Nat} {l : List LinkL} (h : Small id tag l) (hT : T.length = 32) : OkT ⟨id, T, A, c, l⟩ := ⟨(small_ok (A := A) (c := c) h).1, by dsimp only; omega, (small_ok (A := A) (c := c) h).2.2⟩
set_option maxRecDepth 100000 in
set_option maxHeartbeats 8000000 in
theorem verifyOne_walk (k ia ta ib tb : List UInt8) (A B : Option Addr) (ca cb : Nat) (la lb : List LinkL) (w : World) (hT : Tab w) (hla : RdLinks w w.heap.size (.slice A la.length ca) la) (hlb : RdLinks w w.heap.size (.slice B lb.length cb) lb) :
    Calls Tryd.prog 9 #[.string (ofL k), tokV ia (.slice A la.length ca) ta, tokV ib (.slice B lb.length cb) tb] w fun e w' => e = .returned (.bool true) ∧ Ext w w' := by
  have cW := Kp.mk veworks_any
  have zk : (ofL k).size = k.length := size_ofL _
  obtain ⟨W0, hW0, E0, A0, B0⟩ := two_toks w (.string (ofL ia)) (.slice A la.length ca) (.string (ofL ta)) (.string (ofL ib)) (.slice B lb.length cb) (.string (ofL tb))
  have HW := Kp.mk hW0
  have HLA := Kp.mk hla; have HLB := Kp.mk hlb
  obtain ⟨b1, hb1, hg1⟩ := great_det ia ta la
  obtain ⟨b2, hb2, hg2⟩ := great_det ib tb lb
  have cGa := Kp.mk (show ∀ W, Ext w W → _ from fun W h => hg1 (.slice A la.length ca) W (rd_at hla h))
  have cGb := Kp.mk (show ∀ W, Ext w W → _ from fun W h => hg2 (.slice B lb.length cb) W (rd_at hlb h))
  unfold tokV at *
  have r2 := A0.cell 0; have r3 := A0.cell 1; have r4 := A0.cell 2; have r5 := B0.cell 0; have r6 := B0.cell 1; have r7 := B0.cell 2
  simp only [List.getElem?_cons_zero, List.getElem?_cons_succ] at r2 r3 r4 r5 r6 r7
  clear hW0 hla hlb hg1 hg2
  by_cases g1 : k.length = 32
  · have d1 : ((k.length : Int) != 32) = false := by simp; omega
    by_cases g2 : 8 < la.length
    · have d2 : decide ((8 : Int) < (la.length : Int)) = true := by simp; omega
      have F1 := E0
      clear g1
      go_enter Tryd.func9, Tryd.ntmps9
      go_upto_region 1 with fail
      rw [HW.out]
      clear HW
      go_wp2_with fail
      refine (cW.out _ (hT.ext F1)).mono ?_
      rintro e w9 ⟨rfl, E9⟩
      go_wp2
      go_ret
      exact ⟨rfl, F1.tr E9⟩
    · have d2 : decide ((8 : Int) < (la.length : Int)) = false := by simp; omega
      by_cases g3 : 8 < lb.length
      · have d3 : decide ((8 : Int) < (lb.length : Int)) = true := by simp; omega
        have F1 := E0
        clear g1
        go_enter Tryd.func9, Tryd.ntmps9
        go_upto_region 1 with fail
        rw [HW.out]
        clear HW
        go_wp2_with fail
        refine (cW.out _ (hT.ext F1)).mono ?_
        rintro e w9 ⟨rfl, E9⟩
        go_wp2
        go_ret
        exact ⟨rfl, F1.tr E9⟩
      · have d3 : decide ((8 : Int) < (lb.length : Int)) = false := by simp; omega
        have HK := Kp.mk g1
        clear g1
        go_enter Tryd.func9, Tryd.ntmps9
        go_upto_region 1 with fail
        rw [HW.out]
        clear HW
        go_wp2_with fail
        refine (cGa.out _ E0).mono ?_
        rintro e w1 ⟨rfl, E1⟩
        have F1 := E0.tr E1
        have A1 := A0.ext E1 A0.lt; have B1 := B0.ext E1 B0.lt
        clear r2 r3 r4 r5 r6 r7 A0 B0 E0 E1
        have r2 := A1.cell 0; have r3 := A1.cell 1; have r4 := A1.cell 2; have r5 := B1.cell 0; have r6 := B1.cell 1; have r7 := B1.cell 2
        simp only [List.getElem?_cons_zero, List.getElem?_cons_succ] at r2 r3 r4 r5 r6 r7
        cases b1 with
        | true =>
          go_wp2_with fail
          refine (cW.out _ (hT.ext F1)).mono ?_
          rintro e w9 ⟨rfl, E9⟩
          go_wp2
          go_ret
          exact ⟨rfl, F1.tr E9⟩
        | false =>
          go_wp2_with fail
          refine (cGb.out _ F1).mono ?_
          rintro e w2 ⟨rfl, E2⟩
          have F2 := F1.tr E2
          have A2 := A1.ext E2 A1.lt; have B2 := B1.ext E2 B1.lt
          clear r2 r3 r4 r5 r6 r7 A1 B1 F1 E2 cGa cGb
          have r2 := A2.cell 0; have r3 := A2.cell 1; have r4 := A2.cell 2; have r5 := B2.cell 0; have r6 := B2.cell 1; have r7 := B2.cell 2
          simp only [List.getElem?_cons_zero, List.getElem?_cons_succ] at r2 r3 r4 r5 r6 r7
          cases b2 with
          | true =>
            have F1 := F2
            go_wp2_with fail
            refine (cW.out _ (hT.ext F1)).mono ?_
            rintro e w9 ⟨rfl, E9⟩
            go_wp2
            go_ret
            exact ⟨rfl, F1.tr E9⟩
          | false =>
            have hsa := hb1.1 trivial; have hsb := hb2.1 rfl
            clear hb1 hb2
            have gk := HK.out
            have hia := hsa.1; have hib := hsb.1
            have hshA := small_shortV hsa; have hshB := small_shortV hsb
            obtain ⟨T, hTg⟩ : ∃ T, lastL k ia la = T := ⟨_, rfl⟩
            have lT : T.length = 32 := by rw [← hTg]; exact length_lastL _ _ _
            have cL := Kp.mk (show ∀ W, Ext w W → Calls Tryd.prog 30 #[.string (ofL k), .agg #[.string (ofL ia), .slice A la.length ca, .string (ofL ta)]] W fun e w' => e = .returned (.string (ofL T)) ∧ Ext W w' from fun W h => by rw [← hTg]; exact last_any k ia ta _ la W (hT.ext h) (by omega) (by omega) (rd_at HLA.out h) hshA (by omega))
            have hX8 := Kp.mk (show (proveL k ⟨ib, lb, T⟩ []).2 ≠ 8 → lastL k ib lb = T from fun h => prove_tag (k := k) (t := ⟨ib, lb, T⟩) (more := []) (by unfold greatB; simp; omega) h)
            obtain ⟨X, hX⟩ : ∃ X, proveL k ⟨ib, lb, T⟩ [] = X := ⟨_, rfl⟩
            have cV := Kp.mk (show ∀ W, Ext w W → Calls Tryd.prog 39 #[.string (ofL k), .agg #[.string (ofL ib), .slice B lb.length cb, .string (ofL T), .slice none 0 0]] W fun e w' => ∃ A9 n9 c9, e = .returned (.tuple #[.slice A9 n9 c9, .int .i64 X.2]) ∧ Ext W w' from fun W h => by
              have q := verify_any k ib T B cb lb none 0 [] W (hT.ext h) (rd_at HLB.out h) (nil_toks W none 0) (by omega) (ok_tag hsb lT) (by simp) (by decide)
              rw [show proveL k ⟨ib, lb, T⟩ (([] : List TokA).map TokA.plain) = X from hX] at q
              refine q.mono fun e w' ⟨v, h1, h2, h3⟩ => ?_
              obtain ⟨A9, c9, rfl⟩ := own_slice h2
              exact ⟨A9, _, c9, h1, h3⟩)
            have cST := Kp.mk (show ∀ W, Ext w W → _ from fun W h => sameToken_any ia T (.slice A la.length ca) la ib T (.slice B lb.length cb) lb W (rd_at HLA.out h) (rd_at HLB.out h))
            have cTa := Kp.mk (show ∀ W, Ext w W → Calls Tryd.prog 40 #[.string (ofL k), .agg #[.string (ofL ia), .slice A la.length ca, .string (ofL T)]] W (RetOwn W 9 1 (2 + 2 * la.length) ((textsL k ia la).map Str)) from fun W h => rctexts_any k ia T _ la W (by omega) (by omega) (rd_at HLA.out h) hshA (by omega))
            have cTb := Kp.mk (show ∀ W, Ext w W → Calls Tryd.prog 40 #[.string (ofL k), .agg #[.string (ofL ib), .slice B lb.length cb, .string (ofL T)]] W (RetOwn W 9 1 (2 + 2 * lb.length) ((textsL k ib lb).map Str)) from fun W h => rctexts_any k ib T _ lb W (by omega) (by omega) (rd_at HLB.out h) hshB (by omega))
            obtain ⟨st, hst⟩ : ∃ st, sameTok ia T la ib T lb = st := ⟨_, rfl⟩
            rw [hst] at cST
            have cCl := Kp.mk (show st = false → X.2 ≠ 8 → ∀ v W, Rd W W.heap.size 1 v (2 + 2 * la.length + (2 + 2 * lb.length)) ((textsL k ia la).map Str ++ (textsL k ib lb).map Str) → Calls Tryd.prog 22 #[v] W fun e w' => e = .returned (.bool true) ∧ Ext W w' from fun hne hx v W hrd => by
              have hlen : (textsL k ia la ++ textsL k ib lb).length = 2 + 2 * la.length + (2 + 2 * lb.length) := by rw [List.length_append, length_textsL, length_textsL]
              rw [← List.map_append, ← hlen] at hrd
              refine (clash_any (textsL k ia la ++ textsL k ib lb) v W hrd ?_ (by rw [hlen]; omega)).mono ?_
              · intro p hp
                rcases List.mem_append.1 hp with hp | hp
                · exact texts_len k ia la (by omega) hshA p hp
                · exact texts_len k ib lb (by omega) hshB p hp
              · rintro e w' ⟨bb, rfl, hbb, hE⟩
                rcases chain_apart k k ia ib gk gk (by omega) (by omega) _ la lb (Nat.le_refl _) (small_fits hsa) (small_fits hsb) (by rw [hTg, hX8.out (by rw [hX]; exact hx)]) with h | h
                · exfalso
                  rw [← hst] at hne
                  unfold sameTok at hne
                  simp at hne
                  exact hne h.2.1 h.2.2
                · obtain ⟨i, j, h1, h2, h3⟩ := clash_idx h
                  exact ⟨by rw [hbb i j h1 h2 h3], hE⟩)
            clear hsa hsb hshA hshB hTg hX hst hX8
            unfold tokV at cST
            have hlaB : la.length ≤ 8 := by omega
            have hlbB : lb.length ≤ 8 := by omega
            go_wp2_with fail
            refine (cL.out _ F2).mono ?_
            rintro e w3 ⟨rfl, E3⟩
            have F3 := F2.tr E3
            have A3 := A2.ext E3 A2.lt; have B3 := B2.ext E3 B2.lt
            clear r2 r3 r4 r5 r6 r7 A2 B2 F2 E3 cL
            have r4 := A3.cell 2; have r7 := B3.cell 2
            have z4 := A3.frozen 2; have z7 := B3.frozen 2
            simp only [List.getElem?_cons_zero, List.getElem?_cons_succ] at r4 r7
            have B3' : Arr (w3.setCell ⟨w.heap.size, 2, none⟩ (.string (ofL T))) (w.heap.size + 1) 24 [.string (ofL ib), .slice B lb.length cb, .string (ofL tb)] := B3.other _ (by omega)
            have s7 := B3'.cell 2; have y7 := B3'.frozen 2
            simp only [List.getElem?_cons_zero, List.getElem?_cons_succ] at s7
            obtain ⟨W4, hW4⟩ : ∃ W4 : World, W4 = (w3.setCell ⟨w.heap.size, 2, none⟩ (.string (ofL T))).setCell ⟨w.heap.size + 1, 2, none⟩ (.string (ofL T)) := ⟨_, rfl⟩
            have F4 : Ext w W4 := by rw [hW4]; exact (F3.st (p := ⟨w.heap.size, 2, none⟩) (Nat.le_refl _) _).st (p := ⟨w.heap.size + 1, 2, none⟩) (by show w.heap.size ≤ w.heap.size + 1; omega) _
            have A4 : Arr W4 w.heap.size 24 [.string (ofL ia), .slice A la.length ca, .string (ofL T)] := by rw [hW4]; exact (A3.set 2 _).other _ (by omega)
            have B4 : Arr W4 (w.heap.size + 1) 24 [.string (ofL ib), .slice B lb.length cb, .string (ofL T)] := by rw [hW4]; exact B3'.set 2 _
            have HW4 := Kp.mk hW4
            clear hW4
            go_upto_region 5 with fail
            rw [← HW4.out]
            clear r4 r7 z4 z7 s7 y7 A3 B3 B3' F3 HW4
            have r2 := A4.cell 0; have r3 := A4.cell 1; have r4 := A4.cell 2; have r5 := B4.cell 0; have r6 := B4.cell 1; have r7 := B4.cell 2
            simp only [List.getElem?_cons_zero, List.getElem?_cons_succ] at r2 r3 r4 r5 r6 r7
            go_wp2_with fail
            refine (cV.out _ F4).mono ?_
            rintro e w5 ⟨A9, n9, c9, rfl, E5⟩
            have F5 := F4.tr E5
            have A5 := A4.ext E5 A4.lt; have B5 := B4.ext E5 B4.lt
            obtain ⟨Xs, x⟩ := X
            dsimp only at cCl ⊢
            clear r2 r3 r4 r5 r6 r7 A4 B4 F4 E5 cV
            by_cases hx : x = 8
            · subst hx
              have F1 := F5
              go_wp2_with fail
              refine (cW.out _ (hT.ext F1)).mono ?_
              rintro e w9 ⟨rfl, E9⟩
              go_wp2
              go_ret
              exact ⟨rfl, F1.tr E9⟩
            · have d8 : ((x : Int) == 8) = false := by simp; omega
              have r2 := A5.cell 0; have r3 := A5.cell 1; have r4 := A5.cell 2; have r5 := B5.cell 0; have r6 := B5.cell 1; have r7 := B5.cell 2
              simp only [List.getElem?_cons_zero, List.getElem?_cons_succ] at r2 r3 r4 r5 r6 r7
              go_wp2_with fail
              refine (cST.out _ F5).mono ?_
              rintro e w6 ⟨rfl, E6⟩
              have F6 := F5.tr E6
              have A6 := A5.ext E6 A5.lt; have B6 := B5.ext E6 B5.lt
              clear r2 r3 r4 r5 r6 r7 A5 B5 F5 E6 cST
              cases st with
              | true =>
                have F1 := F6
                go_wp2_with fail
                refine (cW.out _ (hT.ext F1)).mono ?_
                rintro e w9 ⟨rfl, E9⟩
                go_wp2
                go_ret
                exact ⟨rfl, F1.tr E9⟩
              | false =>
                have cC := Kp.mk (cCl.out rfl hx)
                clear cCl hx d8
                go_upto_region 8 with fail
                refine wp_region_tails (fun i v W => match i with
                  | 0 => v = .string (ofL k)
                  | 1 => v = .agg #[.string (ofL ia), .slice A la.length ca, .string (ofL T)]
                  | 2 => W.ownsRow w.heap.size 9 1 v (2 + 2 * la.length) ((textsL k ia la).map Str)
                  | 3 => v = .string (ofL k)
                  | 4 => v = .agg #[.string (ofL ib), .slice B lb.length cb, .string (ofL T)]
                  | 5 => Rd W W.heap.size 1 v (2 + 2 * lb.length) ((textsL k ib lb).map Str)
                  | _ => True) 6 (by kernel_rfl) (by kernel_rfl) (by kernel_rfl) (by decide) (by kernel_rfl) (by kernel_rfl) (by kernel_rfl) ?_ ?_ ?_
                · intro i v W1 W2 e1 e2 h
                  match i, h with
                  | 0, h => exact h
                  | 1, h => exact h
                  | 2, h => exact own_ext h (fun j _ hj => e2.block j hj)
                  | 3, h => exact h
                  | 4, h => exact h
                  | 5, h => exact rd_at h e2
                  | (i + 6), h => exact h
                · refine localsR_cons (fun u W hW hd => leaves_val rfl (v := .string (ofL k)) (by go_simp) rfl) ?_
                  refine localsR_cons (fun u W hW hd => ?_) ?_
                  · have q0 := (A6.ext hW A6.lt).cell 0; have q1 := (A6.ext hW A6.lt).cell 1; have q2 := (A6.ext hW A6.lt).cell 2
                    simp only [List.getElem?_cons_zero, List.getElem?_cons_succ] at q0 q1 q2
                    exact leaves_val rfl (v := .agg #[.string (ofL ia), .slice A la.length ca, .string (ofL T)]) (by go_simp) rfl
                  refine localsR_cons (fun u W hW hd => ?_) ?_
                  · have h0 : u 0 = _ := hd 0 (by kernel_rfl)
                    have h1 : u 1 = _ := hd 1 (by kernel_rfl)
                    exact leaves_call rfl (f := 40) (args := #[.string (ofL k), .agg #[.string (ofL ia), .slice A la.length ca, .string (ofL T)]]) (by go_simp) ((cTa.out W (F6.tr hW)).mono (by rintro e9 W9 ⟨v9, rfl, o9, h9⟩; exact ⟨v9, rfl, h9, own_more o9 (by have := F6.size; have := hW.size; omega)⟩))
                  refine localsR_cons (fun u W hW hd => leaves_val rfl (v := .string (ofL k)) (by go_simp) rfl) ?_
                  refine localsR_cons (fun u W hW hd => ?_) ?_
                  · have q0 := (B6.ext hW B6.lt).cell 0; have q1 := (B6.ext hW B6.lt).cell 1; have q2 := (B6.ext hW B6.lt).cell 2
                    simp only [List.getElem?_cons_zero, List.getElem?_cons_succ] at q0 q1 q2
                    exact leaves_val rfl (v := .agg #[.string (ofL ib), .slice B lb.length cb, .string (ofL T)]) (by go_simp) rfl
                  refine localsR_cons (fun u W hW hd => ?_) localsR_nil
                  · have h3 : u 3 = _ := hd 3 (by kernel_rfl)
                    have h4 : u 4 = _ := hd 4 (by kernel_rfl)
                    exact leaves_call rfl (f := 40) (args := #[.string (ofL k), .agg #[.string (ofL ib), .slice B lb.length cb, .string (ofL T)]]) (by go_simp) ((cTb.out W (F6.tr hW)).mono fun _ _ h => rd_partsV h)
                · intro u2 W2 hW2 hV2
                  have own3 : W2.ownsRow w.heap.size 9 1 (u2 2) (2 + 2 * la.length) ((textsL k ia la).map Str) := hV2 2 (by decide)
                  obtain ⟨Ax, cx, h7, _, _, hcx⟩ := hV2 5 (by decide)
                  clear hV2
                  obtain ⟨bx, ox, rfl, hbx, hcx⟩ := hcx (by omega)
                  have F7 := F6.tr hW2
                  have hs5 := F7.size
                  refine wpl_app_at (news := (textsL k ib lb).map Str) Tryd.elemStr rfl _ _ rfl own3 (2 + 2 * lb.length) (by go_simp) (by go_simp; exact ⟨rfl, rfl⟩) (by rw [List.length_map, length_textsL]; omega) (fun j u hu => by rw [WideShapes.add_plain]; exact hcx j u hu) (oneCell_str _) (by omega) (by omega) hs5 ?_
                  intro v6 w6 own6 hg6
                  have F8 := F7.own hg6 own3 (Nat.le_refl _)
                  have hrd := Rd.own own6 (by decide)
                  clear own3 own6 hg6
                  go_wp2_with fail
                  refine (cC.out v6 w6 hrd).mono ?_
                  rintro e w7 ⟨rfl, E7⟩
                  go_wp2
                  go_ret
                  exact ⟨rfl, F8.tr E7⟩
  · have d1 : ((k.length : Int) != 32) = true := by simp; omega
    have F1 := E0
    clear g1
    go_enter Tryd.func9, Tryd.ntmps9
    go_upto_region 1 with fail
    rw [HW.out]
    clear HW
    go_wp2_with fail
    refine (cW.out _ (hT.ext F1)).mono ?_
    rintro e w9 ⟨rfl, E9⟩
    go_wp2
    go_ret
    exact ⟨rfl, F1.tr E9⟩
theorem verifyOne_walk2 (a : ByteArray) (t u : TokA) (w : World) (hT : Tab w) (_ha : a.size ≤ maxLen) (ht : TokOk w t) (hu : TokOk w u) : Calls Tryd.prog 9 #[.string a, tokAV t, tokAV u] w fun e w' => e = .returned (.bool true) ∧ Ext w w' := by
  have q := verifyOne_walk (toL a) t.id t.tag u.id u.tag t.A u.A t.c u.c t.l u.l w hT ht.1 hu.1
  rw [ofL_toL] at q
  exact q
end Go.Proofs.YtejhiekikblbiaaDoor
