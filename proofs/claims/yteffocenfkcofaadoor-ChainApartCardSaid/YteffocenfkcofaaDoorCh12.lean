/-
  Chapter 34's laws: ChainApart returns true. Condition: the package's table holds the constants.
-/
import Derived.Test.YteffocenfkcofaaDoorCh11
namespace Go.Proofs.YteffocenfkcofaaDoor
open Go.RowKit

theorem clash_idx {xs : List (List UInt8)} (h : ClashM xs) : ∃ i j, j < i ∧ i < xs.length ∧ ClashAt xs i j := by
  obtain ⟨p, hp, q, hq, hne, hs⟩ := h
  obtain ⟨i, hi⟩ := List.mem_iff_getElem?.1 hp
  obtain ⟨j, hj⟩ := List.mem_iff_getElem?.1 hq
  have li : i < xs.length := (List.getElem?_eq_some_iff.1 hi).1
  have lj : j < xs.length := (List.getElem?_eq_some_iff.1 hj).1
  have ei : xs.getD i [] = p := by rw [List.getD_eq_getElem?_getD, hi]; rfl
  have ej : xs.getD j [] = q := by rw [List.getD_eq_getElem?_getD, hj]; rfl
  rcases Nat.lt_trichotomy i j with h | h | h
  · exact ⟨j, i, h, lj, by rw [ei, ej]; exact hs, by rw [ei, ej]; exact hne⟩
  · subst h
    rw [ei] at ej
    exact absurd ej hne
  · exact ⟨i, j, h, li, by rw [ei, ej]; exact hs.symm, by rw [ei, ej]; exact hne.symm⟩
theorem pairT_len (k : List UInt8) (ps : List (List UInt8)) (h : (frameL ps).length ≤ 400000) : ∀ p ∈ pairT k ps, p.length ≤ 900000 := by
  intro p hp
  simp [pairT] at hp
  rcases hp with rfl | rfl
  · unfold innerL; rw [List.length_append, length_hideL]; omega
  · unfold outerL; rw [List.length_append, length_hideL, length_sumL]; omega
theorem texts_len (k id : List UInt8) (l : List LinkL) (hi : id.length ≤ 100000) (hs : Short1 l) : ∀ p ∈ textsL k id l, p.length ≤ 900000 := by
  have key : ∀ (l : List LinkL) (t : List UInt8), Short1 l → ∀ p ∈ moreT t l, p.length ≤ 900000 := by
    intro l
    induction l with
    | nil => intro t _ p hp; simp [moreT] at hp
    | cons x l ih =>
      intro t h p hp
      rw [moreT] at hp
      rcases List.mem_append.1 hp with hp | hp
      · exact pairT_len t _ (by have h1 := len_next x; have h2 := h x (by simp); omega) p hp
      · exact ih _ (fun y hy => h y (by simp [hy])) p hp
  intro p hp
  unfold textsL at hp
  rcases List.mem_append.1 hp with hp | hp
  · exact pairT_len k _ (by rw [len_root]; omega) p hp
  · exact key l _ hs p hp
theorem small_fits {id tag : List UInt8} {l : List LinkL} (h : Small id tag l) : ∀ x ∈ l, Fits x := fun x hx => by
  have := h.2.2.2.1 x hx
  unfold Fits
  omega

set_option maxRecDepth 100000 in
set_option maxHeartbeats 8000000 in
theorem chainApart_walk (k m ia ta ib tb : List UInt8) (A B : Option Addr) (ca cb : Nat) (la lb : List LinkL) (w : World) (hT : Tab w) (hla : RdLinks w w.heap.size (.slice A la.length ca) la) (hlb : RdLinks w w.heap.size (.slice B lb.length cb) lb) :
    Calls Tryd.prog 5 #[.agg #[.string (ofL k), .string (ofL m)], tokV ia (.slice A la.length ca) ta, tokV ib (.slice B lb.length cb) tb] w fun e w' => e = .returned (.bool true) ∧ Ext w w' := by
  have cW := Kp.mk chworks_any
  have zk : (ofL k).size = k.length := size_ofL _
  have zm : (ofL m).size = m.length := size_ofL _
  obtain ⟨W0, hW0⟩ : ∃ W0, ((w.alloc (.cells #[.string (ofL k), .string (ofL m)] 22)).alloc (.cells #[.string (ofL ia), .slice A la.length ca, .string (ofL ta)] 31)).alloc (.cells #[.string (ofL ib), .slice B lb.length cb, .string (ofL tb)] 31) = W0 := ⟨_, rfl⟩
  have E0 : Ext w W0 := by rw [← hW0]; exact (((Ext.rfl' w).al _).al _).al _
  have K0 : Arr W0 w.heap.size 22 [.string (ofL k), .string (ofL m)] := by
    rw [← hW0]; exact ((Arr.new w 22 [.string (ofL k), .string (ofL m)]).alloc _).alloc _
  have A0 : Arr W0 (w.heap.size + 1) 31 [.string (ofL ia), .slice A la.length ca, .string (ofL ta)] := by
    rw [← hW0]
    have h := (Arr.new (w.alloc (.cells #[.string (ofL k), .string (ofL m)] 22)) 31 [.string (ofL ia), .slice A la.length ca, .string (ofL ta)]).alloc (.cells #[.string (ofL ib), .slice B lb.length cb, .string (ofL tb)] 31)
    rw [World.size_alloc] at h
    exact h
  have B0 : Arr W0 (w.heap.size + 1 + 1) 31 [.string (ofL ib), .slice B lb.length cb, .string (ofL tb)] := by
    rw [← hW0]
    have h := Arr.new ((w.alloc (.cells #[.string (ofL k), .string (ofL m)] 22)).alloc (.cells #[.string (ofL ia), .slice A la.length ca, .string (ofL ta)] 31)) 31 [.string (ofL ib), .slice B lb.length cb, .string (ofL tb)]
    simp only [World.size_alloc] at h
    exact h
  have LA0 := rd_at hla E0
  have LB0 := rd_at hlb E0
  have HW0 := Kp.mk hW0
  have HLA := Kp.mk hla; have HLB := Kp.mk hlb
  clear hW0 hla hlb
  have r0 := K0.cell 0; have r1 := K0.cell 1; have r2 := A0.cell 0; have r3 := A0.cell 1; have r4 := A0.cell 2; have r5 := B0.cell 0; have r6 := B0.cell 1; have r7 := B0.cell 2
  simp only [List.getElem?_cons_zero, List.getElem?_cons_succ] at r0 r1 r2 r3 r4 r5 r6 r7
  unfold tokV
  by_cases g1 : k.length = 32
  · by_cases g2 : m.length = 32
    · have d1 : ((k.length : Int) != 32) = false := by simp; omega
      have d2 : ((m.length : Int) != 32) = false := by simp; omega
      have cGa := Kp.mk (great34_any ia ta (.slice A la.length ca) la W0 LA0)
      have HK := Kp.mk g1; have HM := Kp.mk g2
      clear g1 g2
      go_enter Tryd.func5, Tryd.ntmps5
      go_wp2_with fail
      rw [HW0.out]
      refine cGa.out.mono ?_
      rintro e w1 ⟨b1, rfl, hb1, E1⟩
      have F1 := E0.tr E1
      cases b1 with
      | true =>
        go_wp2_with fail
        refine (cW.out _ (hT.ext F1)).mono ?_
        rintro e w9 ⟨rfl, E9⟩
        go_wp2
        go_ret
        exact ⟨rfl, F1.tr E9⟩
      | false =>
        obtain ⟨hsa, hla10⟩ := hb1 rfl
        have K1 := K0.ext E1 K0.lt; have A1 := A0.ext E1 A0.lt; have B1 := B0.ext E1 B0.lt
        have LA1 := rd_at LA0 E1; have LB1 := rd_at LB0 E1
        have cGb := Kp.mk (great34_any ib tb (.slice B lb.length cb) lb w1 LB1)
        have r0 := K1.cell 0; have r1 := K1.cell 1; have r2 := A1.cell 0; have r3 := A1.cell 1; have r4 := A1.cell 2; have r5 := B1.cell 0; have r6 := B1.cell 1; have r7 := B1.cell 2
        simp only [List.getElem?_cons_zero, List.getElem?_cons_succ] at r0 r1 r2 r3 r4 r5 r6 r7
        have F1s := Kp.mk F1
        clear K0 A0 B0 LA0 LB0 E1 E0 F1
        go_wp2_with fail
        refine cGb.out.mono ?_
        rintro e w2 ⟨b2, rfl, hb2, E2⟩
        have F1 := F1s.out.tr E2
        cases b2 with
        | true =>
          go_wp2_with fail
          refine (cW.out _ (hT.ext F1)).mono ?_
          rintro e w9 ⟨rfl, E9⟩
          go_wp2
          go_ret
          exact ⟨rfl, F1.tr E9⟩
        | false =>
          obtain ⟨hsb, hlb10⟩ := hb2 rfl
          have K2 := K1.ext E2 K1.lt; have A2 := A1.ext E2 A1.lt; have B2 := B1.ext E2 B1.lt
          have LA2 := rd_at LA1 E2; have LB2 := rd_at LB1 E2
          have s4 := A2.cell 2; have s7 := B2.cell 2
          simp only [List.getElem?_cons_zero, List.getElem?_cons_succ] at s4 s7
          have f4 := A2.frozen 2; have f7 := B2.frozen 2
          have B2' : Arr (w2.setCell ⟨w.heap.size + 1, 2, none⟩ (.string ⟨#[]⟩)) (w.heap.size + 1 + 1) 31 [.string (ofL ib), .slice B lb.length cb, .string (ofL tb)] := B2.other _ (by omega)
          have s8 := B2'.cell 2
          simp only [List.getElem?_cons_zero, List.getElem?_cons_succ] at s8
          have f8 := B2'.frozen 2
          obtain ⟨w3, hw3⟩ : ∃ w3, (w2.setCell ⟨w.heap.size + 1, 2, none⟩ (.string ⟨#[]⟩)).setCell ⟨w.heap.size + 1 + 1, 2, none⟩ (.string ⟨#[]⟩) = w3 := ⟨_, rfl⟩
          have F3 : Ext w w3 := by rw [← hw3]; exact (F1.st (p := ⟨w.heap.size + 1, 2, none⟩) (by simp) _).st (p := ⟨w.heap.size + 1 + 1, 2, none⟩) (show w.heap.size ≤ w.heap.size + 1 + 1 by omega) _
          have K3 : Arr w3 w.heap.size 22 [.string (ofL k), .string (ofL m)] := by rw [← hw3]; exact (K2.other _ (by omega)).other _ (by omega)
          have A3 : Arr w3 (w.heap.size + 1) 31 [.string (ofL ia), .slice A la.length ca, .string ⟨#[]⟩] := by rw [← hw3]; exact (A2.set 2 (.string ⟨#[]⟩)).other _ (by omega)
          have B3 : Arr w3 (w.heap.size + 1 + 1) 31 [.string (ofL ib), .slice B lb.length cb, .string ⟨#[]⟩] := by rw [← hw3]; exact (B2.other _ (by omega)).set 2 (.string ⟨#[]⟩)
          have hs3 : w3.heap.size = w2.heap.size := by rw [← hw3]; simp
          have LA := Kp.mk ((HLA.out.ext F3 (Nat.le_refl _)).more F3.size)
          have LB := Kp.mk ((HLB.out.ext F3 (Nat.le_refl _)).more F3.size)
          have kc := Kp.mk (show ∀ W, Ext w3 W → W.cell? ⟨w.heap.size, 0, none⟩ = some (.string (ofL k)) from fun W hW => (K3.ext hW K3.lt).cell 0)
          have mc := Kp.mk (show ∀ W, Ext w3 W → W.cell? ⟨w.heap.size, 1, none⟩ = some (.string (ofL m)) from fun W hW => (K3.ext hW K3.lt).cell 1)
          have ac := Kp.mk (show ∀ W, Ext w3 W → W.cell? ⟨w.heap.size + 1, 0, none⟩ = some (.string (ofL ia)) ∧ W.cell? ⟨w.heap.size + 1, 1, none⟩ = some (.slice A la.length ca) ∧ W.cell? ⟨w.heap.size + 1, 2, none⟩ = some (.string ⟨#[]⟩) from fun W hW => ⟨(A3.ext hW A3.lt).cell 0, (A3.ext hW A3.lt).cell 1, (A3.ext hW A3.lt).cell 2⟩)
          have bc := Kp.mk (show ∀ W, Ext w3 W → W.cell? ⟨w.heap.size + 1 + 1, 0, none⟩ = some (.string (ofL ib)) ∧ W.cell? ⟨w.heap.size + 1 + 1, 1, none⟩ = some (.slice B lb.length cb) ∧ W.cell? ⟨w.heap.size + 1 + 1, 2, none⟩ = some (.string ⟨#[]⟩) from fun W hW => ⟨(B3.ext hW B3.lt).cell 0, (B3.ext hW B3.lt).cell 1, (B3.ext hW B3.lt).cell 2⟩)
          have HW3 := Kp.mk hw3
          obtain ⟨X, hX⟩ : ∃ X, lastL k ia la = X := ⟨_, rfl⟩
          obtain ⟨Y, hY⟩ : ∃ Y, lastL m ib lb = Y := ⟨_, rfl⟩
          have hshA := small_short hsa; have hshB := small_short hsb
          have hia := hsa.1; have hib := hsb.1
          have gk := HK.out; have gm := HM.out
          have cLa := Kp.mk (show ∀ W, Tab W → RdLinks W W.heap.size (.slice A la.length ca) la → Calls Tryd.prog 22 #[.string (ofL k), .agg #[.string (ofL ia), .slice A la.length ca, .string ⟨#[]⟩]] W fun e w' => e = .returned (.string (ofL X)) ∧ Ext W w' from fun W h1 h2 => by rw [← hX]; exact last_any k ia [] _ la W h1 (by omega) (by omega) h2 hshA (by omega))
          have cLb := Kp.mk (show ∀ W, Tab W → RdLinks W W.heap.size (.slice B lb.length cb) lb → Calls Tryd.prog 22 #[.string (ofL m), .agg #[.string (ofL ib), .slice B lb.length cb, .string ⟨#[]⟩]] W fun e w' => e = .returned (.string (ofL Y)) ∧ Ext W w' from fun W h1 h2 => by rw [← hY]; exact last_any m ib [] _ lb W h1 (by omega) (by omega) h2 hshB (by omega))
          have cTa := Kp.mk (show ∀ W, RdLinks W W.heap.size (.slice A la.length ca) la → Calls Tryd.prog 24 #[.string (ofL k), .agg #[.string (ofL ia), .slice A la.length ca, .string ⟨#[]⟩]] W (RetOwn W 9 1 (2 + 2 * la.length) ((textsL k ia la).map Str)) from fun W h2 => rctexts_any k ia [] _ la W (by omega) (by omega) h2 hshA (by omega))
          have cTb := Kp.mk (show ∀ W, RdLinks W W.heap.size (.slice B lb.length cb) lb → Calls Tryd.prog 24 #[.string (ofL m), .agg #[.string (ofL ib), .slice B lb.length cb, .string ⟨#[]⟩]] W (RetOwn W 9 1 (2 + 2 * lb.length) ((textsL m ib lb).map Str)) from fun W h2 => rctexts_any m ib [] _ lb W (by omega) (by omega) h2 hshB (by omega))
          have cCl0 := Kp.mk (show ¬ (k = m ∧ ia = ib ∧ la = lb) → X = Y → ∀ v W, Rd W W.heap.size 1 v (2 + 2 * la.length + (2 + 2 * lb.length)) ((textsL k ia la).map Str ++ (textsL m ib lb).map Str) → Calls Tryd.prog 15 #[v] W fun e w' => e = .returned (.bool true) ∧ Ext W w' from fun hne hXY v W hrd => by
            have hlen : (textsL k ia la ++ textsL m ib lb).length = 2 + 2 * la.length + (2 + 2 * lb.length) := by rw [List.length_append, length_textsL, length_textsL]
            rw [← List.map_append, ← hlen] at hrd
            refine (clash_any (textsL k ia la ++ textsL m ib lb) v W hrd ?_ (by rw [hlen]; omega)).mono ?_
            · intro p hp
              rcases List.mem_append.1 hp with hp | hp
              · exact texts_len k ia la (by omega) hshA p hp
              · exact texts_len m ib lb (by omega) hshB p hp
            · rintro e w' ⟨bb, rfl, hbb, hE⟩
              rcases chain_apart k m ia ib gk gm (by omega) (by omega) _ la lb (Nat.le_refl _) (small_fits hsa) (small_fits hsb) (by rw [hX, hY, hXY]) with h | h
              · exact absurd h hne
              · obtain ⟨i, j, h1, h2, h3⟩ := clash_idx h
                exact ⟨by rw [hbb i j h1 h2 h3], hE⟩)
          have hsame := Kp.mk (show k = m → ia = ib ∧ la = lb → X = Y from fun h1 h2 => by rw [← hX, ← hY, h1, h2.1, h2.2])
          clear hX hY hshA hshB hsa hsb K3 A3 B3 hw3 hs3 F1s LA1 LB1 LA2 LB2 cGb cGa K1 A1 B1 HW0
          by_cases g3 : k = m
          · have d5 : (k == m) = true := by simp [g3]
            have cST := Kp.mk (sameToken_any ia [] (.slice A la.length ca) la ib [] (.slice B lb.length cb) lb w3 LA.out LB.out)
            obtain ⟨q, hq⟩ : ∃ q, sameTok ia [] la ib [] lb = q := ⟨_, rfl⟩
            rw [hq] at cST
            have HQ := Kp.mk hq
            have G3 := Kp.mk g3
            obtain ⟨q0, q1, q2⟩ := ac.out w3 (Ext.rfl' _)
            obtain ⟨p0, p1, p2⟩ := bc.out w3 (Ext.rfl' _)
            have p3 := kc.out w3 (Ext.rfl' _)
            have p4 := mc.out w3 (Ext.rfl' _)
            clear hq g3 gk gm
            go_upto_region 4 with fail
            rw [HW3.out]
            go_wp2_with fail
            refine cST.out.mono ?_
            rintro e w4 ⟨rfl, E4⟩
            have HF3 := Kp.mk F3
            clear cST q0 q1 q2 p0 p1 p2 p3 p4 F3
            have F3 := HF3.out.tr E4
            have kc := Kp.mk (show ∀ W, Ext w4 W → W.cell? ⟨w.heap.size, 0, none⟩ = some (.string (ofL k)) from fun W hW => kc.out W (E4.tr hW))
            have mc := Kp.mk (show ∀ W, Ext w4 W → W.cell? ⟨w.heap.size, 1, none⟩ = some (.string (ofL m)) from fun W hW => mc.out W (E4.tr hW))
            have ac := Kp.mk (show ∀ W, Ext w4 W → _ from fun W hW => ac.out W (E4.tr hW))
            have bc := Kp.mk (show ∀ W, Ext w4 W → _ from fun W hW => bc.out W (E4.tr hW))
            have LA := Kp.mk (rd_at LA.out E4); have LB := Kp.mk (rd_at LB.out E4)
            clear E4 HF3
            cases q with
            | true =>
              have hXY : Y = X := (hsame.out G3.out (by have := HQ.out; unfold sameTok at this; simp at this; exact this)).symm
              have HXY := Kp.mk hXY
              have cLb := Kp.mk (show ∀ W, Tab W → RdLinks W W.heap.size (.slice B lb.length cb) lb → Calls Tryd.prog 22 #[.string (ofL m), .agg #[.string (ofL ib), .slice B lb.length cb, .string ⟨#[]⟩]] W fun e w' => e = .returned (.string (ofL X)) ∧ Ext W w' from fun W h1 h2 => by rw [← hXY]; exact cLb.out W h1 h2)
              clear hXY
              go_upto_region 5 with fail
              refine wp_region_locals (fun i v W => match i with
                | 0 => v = .pointer (some ⟨w.heap.size, 0, none⟩)
                | 1 => v = .string (ofL k)
                | 2 => v = .agg #[.string (ofL ia), .slice A la.length ca, .string ⟨#[]⟩]
                | 3 => v = .string (ofL X)
                | 4 => v = .pointer (some ⟨w.heap.size, 1, none⟩)
                | 5 => v = .string (ofL m)
                | 6 => v = .agg #[.string (ofL ib), .slice B lb.length cb, .string ⟨#[]⟩]
                | 7 => v = .string (ofL X)
                | 8 => v = .bool true
                | 9 => v = .bool true
                | 10 => v = .bool true
                | 11 => v = .bool true
                | 12 => v = .bool true
                | _ => True) (by kernel_rfl) (by kernel_rfl) (by kernel_rfl) ?_ ?_ ?_
              · intro i v W1 W2 e1 e2 h
                match i, h with
                | 0, h => exact h
                | 1, h => exact h
                | 2, h => exact h
                | 3, h => exact h
                | 4, h => exact h
                | 5, h => exact h
                | 6, h => exact h
                | 7, h => exact h
                | 8, h => exact h
                | 9, h => exact h
                | 10, h => exact h
                | 11, h => exact h
                | 12, h => exact h
                | (i + 13), h => exact h
              · refine locals_cons (fun u W hW hd => leaves_val rfl (v := .pointer (some ⟨w.heap.size, 0, none⟩)) (by go_simp) rfl) ?_
                refine locals_cons (fun u W hW hd => ?_) ?_
                · have h0 : u 0 = _ := hd 0 (by kernel_rfl)
                  have q0 := kc.out W hW
                  exact leaves_val rfl (v := .string (ofL k)) (by go_simp) rfl
                refine locals_cons (fun u W hW hd => ?_) ?_
                · obtain ⟨q0, q1, q2⟩ := ac.out W hW
                  exact leaves_val rfl (v := .agg #[.string (ofL ia), .slice A la.length ca, .string ⟨#[]⟩]) (by go_simp) rfl
                refine locals_cons (fun u W hW hd => ?_) ?_
                · have h1 : u 1 = _ := hd 1 (by kernel_rfl)
                  have h2 : u 2 = _ := hd 2 (by kernel_rfl)
                  exact leaves_call rfl (f := 22) (args := #[.string (ofL k), .agg #[.string (ofL ia), .slice A la.length ca, .string ⟨#[]⟩]]) (by go_simp) ((cLa.out W (hT.ext (F3.tr hW)) (rd_at LA.out hW)).mono (by rintro e9 W9 ⟨rfl, h9⟩; exact ⟨_, rfl, h9, rfl⟩))
                refine locals_cons (fun u W hW hd => leaves_val rfl (v := .pointer (some ⟨w.heap.size, 1, none⟩)) (by go_simp) rfl) ?_
                refine locals_cons (fun u W hW hd => ?_) ?_
                · have h4 : u 4 = _ := hd 4 (by kernel_rfl)
                  have q0 := mc.out W hW
                  exact leaves_val rfl (v := .string (ofL m)) (by go_simp) rfl
                refine locals_cons (fun u W hW hd => ?_) ?_
                · obtain ⟨q0, q1, q2⟩ := bc.out W hW
                  exact leaves_val rfl (v := .agg #[.string (ofL ib), .slice B lb.length cb, .string ⟨#[]⟩]) (by go_simp) rfl
                refine locals_cons (fun u W hW hd => ?_) ?_
                · have h5 : u 5 = _ := hd 5 (by kernel_rfl)
                  have h6 : u 6 = _ := hd 6 (by kernel_rfl)
                  exact leaves_call rfl (f := 22) (args := #[.string (ofL m), .agg #[.string (ofL ib), .slice B lb.length cb, .string ⟨#[]⟩]]) (by go_simp) ((cLb.out W (hT.ext (F3.tr hW)) (rd_at LB.out hW)).mono (by rintro e9 W9 ⟨rfl, h9⟩; exact ⟨_, rfl, h9, rfl⟩))
                refine locals_cons (fun u W hW hd => ?_) ?_
                · have h3 : u 3 = _ := hd 3 (by kernel_rfl)
                  have h7 : u 7 = _ := hd 7 (by kernel_rfl)
                  exact leaves_val rfl (v := .bool true) (by go_simp) rfl
                refine locals_cons (fun u W hW hd => ?_) ?_
                · have h8 : u 8 = _ := hd 8 (by kernel_rfl)
                  exact leaves_val rfl (v := .bool true) (by go_simp) rfl
                refine locals_cons (fun u W hW hd => ?_) ?_
                · have h9 : u 9 = _ := hd 9 (by kernel_rfl)
                  exact leaves_call (by simp [Region.wanted, yielded, go_sem, h9]) (f := 18) (args := #[]) (by go_simp) ((cW.out W (hT.ext (F3.tr hW))).mono (by rintro e9 W9 ⟨rfl, h9⟩; exact ⟨_, rfl, h9, rfl⟩))
                refine locals_cons (fun u W hW hd => ?_) ?_
                · have h9 : u 9 = _ := hd 9 (by kernel_rfl)
                  have h10 : u 10 = _ := hd 10 (by kernel_rfl)
                  exact leaves_val rfl (v := .bool true) (by go_simp) rfl
                refine locals_cons (fun u W hW hd => ?_) locals_nil
                · have h11 : u 11 = _ := hd 11 (by kernel_rfl)
                  exact leaves_val rfl (v := .bool true) (by go_simp) rfl
              · intro u W hW hV
                have h12 : u 12 = .bool true := hV 12 (by decide)
                clear hV
                go_wp2
                exact bodyPost_ret (v := .bool true) (by simp [results, Tryd.results5, go_sem, h12]) rfl ⟨rfl, F3.tr hW⟩
            | false =>
              have cCl := Kp.mk (cCl0.out (fun h => by have := HQ.out; unfold sameTok at this; simp at this; exact this h.2.1 h.2.2))
              go_upto_region 6 with fail
              refine wp_region_locals (fun i v W => match i with
                | 0 => v = .pointer (some ⟨w.heap.size, 0, none⟩)
                | 1 => v = .string (ofL k)
                | 2 => v = .agg #[.string (ofL ia), .slice A la.length ca, .string ⟨#[]⟩]
                | 3 => v = .string (ofL X)
                | 4 => v = .pointer (some ⟨w.heap.size, 1, none⟩)
                | 5 => v = .string (ofL m)
                | 6 => v = .agg #[.string (ofL ib), .slice B lb.length cb, .string ⟨#[]⟩]
                | 7 => v = .string (ofL Y)
                | 8 => v = .bool (!(X == Y))
                | _ => True) (by kernel_rfl) (by kernel_rfl) (by kernel_rfl) ?_ ?_ ?_
              · intro i v W1 W2 e1 e2 h
                match i, h with
                | 0, h => exact h
                | 1, h => exact h
                | 2, h => exact h
                | 3, h => exact h
                | 4, h => exact h
                | 5, h => exact h
                | 6, h => exact h
                | 7, h => exact h
                | 8, h => exact h
                | (i + 9), h => exact h
              · refine locals_cons (fun u W hW hd => leaves_val rfl (v := .pointer (some ⟨w.heap.size, 0, none⟩)) (by go_simp) rfl) ?_
                refine locals_cons (fun u W hW hd => ?_) ?_
                · have h0 : u 0 = _ := hd 0 (by kernel_rfl)
                  have q0 := kc.out W hW
                  exact leaves_val rfl (v := .string (ofL k)) (by go_simp) rfl
                refine locals_cons (fun u W hW hd => ?_) ?_
                · obtain ⟨q0, q1, q2⟩ := ac.out W hW
                  exact leaves_val rfl (v := .agg #[.string (ofL ia), .slice A la.length ca, .string ⟨#[]⟩]) (by go_simp) rfl
                refine locals_cons (fun u W hW hd => ?_) ?_
                · have h1 : u 1 = _ := hd 1 (by kernel_rfl)
                  have h2 : u 2 = _ := hd 2 (by kernel_rfl)
                  exact leaves_call rfl (f := 22) (args := #[.string (ofL k), .agg #[.string (ofL ia), .slice A la.length ca, .string ⟨#[]⟩]]) (by go_simp) ((cLa.out W (hT.ext (F3.tr hW)) (rd_at LA.out hW)).mono (by rintro e9 W9 ⟨rfl, h9⟩; exact ⟨_, rfl, h9, rfl⟩))
                refine locals_cons (fun u W hW hd => leaves_val rfl (v := .pointer (some ⟨w.heap.size, 1, none⟩)) (by go_simp) rfl) ?_
                refine locals_cons (fun u W hW hd => ?_) ?_
                · have h4 : u 4 = _ := hd 4 (by kernel_rfl)
                  have q0 := mc.out W hW
                  exact leaves_val rfl (v := .string (ofL m)) (by go_simp) rfl
                refine locals_cons (fun u W hW hd => ?_) ?_
                · obtain ⟨q0, q1, q2⟩ := bc.out W hW
                  exact leaves_val rfl (v := .agg #[.string (ofL ib), .slice B lb.length cb, .string ⟨#[]⟩]) (by go_simp) rfl
                refine locals_cons (fun u W hW hd => ?_) ?_
                · have h5 : u 5 = _ := hd 5 (by kernel_rfl)
                  have h6 : u 6 = _ := hd 6 (by kernel_rfl)
                  exact leaves_call rfl (f := 22) (args := #[.string (ofL m), .agg #[.string (ofL ib), .slice B lb.length cb, .string ⟨#[]⟩]]) (by go_simp) ((cLb.out W (hT.ext (F3.tr hW)) (rd_at LB.out hW)).mono (by rintro e9 W9 ⟨rfl, h9⟩; exact ⟨_, rfl, h9, rfl⟩))
                refine locals_cons (fun u W hW hd => ?_) locals_nil
                · have h3 : u 3 = _ := hd 3 (by kernel_rfl)
                  have h7 : u 7 = _ := hd 7 (by kernel_rfl)
                  exact leaves_val rfl (v := .bool (!(X == Y))) (by go_simp) rfl
              · intro u Wa hWa hV
                have h8 : u 8 = .bool (!(X == Y)) := hV 8 (by decide)
                clear hV
                have F4 := F3.tr hWa
                clear r0 r1 r2 r3 r4 r5 r6 r7
                by_cases hXY : X = Y
                · have t1 : (X == Y) = true := by simp [hXY]
                  have cC := Kp.mk (cCl.out hXY)
                  have RA := Kp.mk (rd_at LA.out hWa); have RB := Kp.mk (rd_at LB.out hWa)
                  clear hXY
                  rw [t1] at h8
                  go_simp
                  go_upto_region 8 with fail
                  refine wp_region_tails (fun i v W => match i with
                    | 0 => v = .pointer (some ⟨w.heap.size, 0, none⟩)
                    | 1 => v = .string (ofL k)
                    | 2 => v = .agg #[.string (ofL ia), .slice A la.length ca, .string ⟨#[]⟩]
                    | 3 => W.ownsRow w.heap.size 9 1 v (2 + 2 * la.length) ((textsL k ia la).map Str)
                    | 4 => v = .pointer (some ⟨w.heap.size, 1, none⟩)
                    | 5 => v = .string (ofL m)
                    | 6 => v = .agg #[.string (ofL ib), .slice B lb.length cb, .string ⟨#[]⟩]
                    | 7 => Rd W W.heap.size 1 v (2 + 2 * lb.length) ((textsL m ib lb).map Str)
                    | _ => True) 8 (by kernel_rfl) (by kernel_rfl) (by kernel_rfl) (by decide) (by kernel_rfl) (by kernel_rfl) (by kernel_rfl) ?_ ?_ ?_
                  · intro i v W1 W2 e1 e2 h
                    match i, h with
                    | 0, h => exact h
                    | 1, h => exact h
                    | 2, h => exact h
                    | 3, h => exact own_ext h (fun j _ hj => e2.block j hj)
                    | 4, h => exact h
                    | 5, h => exact h
                    | 6, h => exact h
                    | 7, h => exact rd_at h e2
                    | (i + 8), h => exact h
                  · refine localsR_cons (fun u W hW hd => leaves_val rfl (v := .pointer (some ⟨w.heap.size, 0, none⟩)) (by go_simp) rfl) ?_
                    refine localsR_cons (fun u W hW hd => ?_) ?_
                    · have h0 : u 0 = _ := hd 0 (by kernel_rfl)
                      have q0 := kc.out W (hWa.tr hW)
                      exact leaves_val rfl (v := .string (ofL k)) (by go_simp) rfl
                    refine localsR_cons (fun u W hW hd => ?_) ?_
                    · obtain ⟨q0, q1, q2⟩ := ac.out W (hWa.tr hW)
                      exact leaves_val rfl (v := .agg #[.string (ofL ia), .slice A la.length ca, .string ⟨#[]⟩]) (by go_simp) rfl
                    refine localsR_cons (fun u W hW hd => ?_) ?_
                    · have h1 : u 1 = _ := hd 1 (by kernel_rfl)
                      have h2 : u 2 = _ := hd 2 (by kernel_rfl)
                      exact leaves_call rfl (f := 24) (args := #[.string (ofL k), .agg #[.string (ofL ia), .slice A la.length ca, .string ⟨#[]⟩]]) (by go_simp) ((cTa.out W (rd_at RA.out hW)).mono (by rintro e9 W9 ⟨v9, rfl, o9, h9⟩; exact ⟨v9, rfl, h9, own_more o9 (by have := F4.size; have := hW.size; omega)⟩))
                    refine localsR_cons (fun u W hW hd => leaves_val rfl (v := .pointer (some ⟨w.heap.size, 1, none⟩)) (by go_simp) rfl) ?_
                    refine localsR_cons (fun u W hW hd => ?_) ?_
                    · have h4 : u 4 = _ := hd 4 (by kernel_rfl)
                      have q0 := mc.out W (hWa.tr hW)
                      exact leaves_val rfl (v := .string (ofL m)) (by go_simp) rfl
                    refine localsR_cons (fun u W hW hd => ?_) ?_
                    · obtain ⟨q0, q1, q2⟩ := bc.out W (hWa.tr hW)
                      exact leaves_val rfl (v := .agg #[.string (ofL ib), .slice B lb.length cb, .string ⟨#[]⟩]) (by go_simp) rfl
                    refine localsR_cons (fun u W hW hd => ?_) localsR_nil
                    · have h5 : u 5 = _ := hd 5 (by kernel_rfl)
                      have h6 : u 6 = _ := hd 6 (by kernel_rfl)
                      exact leaves_call rfl (f := 24) (args := #[.string (ofL m), .agg #[.string (ofL ib), .slice B lb.length cb, .string ⟨#[]⟩]]) (by go_simp) ((cTb.out W (rd_at RB.out hW)).mono fun _ _ h => rd_parts h)
                  · intro u2 W2 hW2 hV2
                    have own3 : W2.ownsRow w.heap.size 9 1 (u2 3) (2 + 2 * la.length) ((textsL k ia la).map Str) := hV2 3 (by decide)
                    obtain ⟨Ax, cx, h7, _, _, hcx⟩ := hV2 7 (by decide)
                    clear hV2
                    obtain ⟨bx, ox, rfl, hbx, hcx⟩ := hcx (by omega)
                    have F5 := F4.tr hW2
                    have hs5 := F5.size
                    refine wpl_app_at (news := (textsL m ib lb).map Str) Tryd.elemStr rfl _ _ rfl own3 (2 + 2 * lb.length) (by go_simp) (by go_simp; exact ⟨rfl, rfl⟩) (by rw [List.length_map, length_textsL]; omega) (fun j u hu => by rw [WideShapes.add_plain]; exact hcx j u hu) (oneCell_str _) (by omega) (by omega) hs5 ?_
                    intro v6 w6 own6 hg6
                    have F6 := F5.own hg6 own3 (Nat.le_refl _)
                    have hrd := Rd.own own6 (by decide)
                    clear own3 own6 hg6
                    go_wp2_with fail
                    refine (cC.out v6 w6 hrd).mono ?_
                    rintro e w7 ⟨rfl, E7⟩
                    go_wp2
                    go_ret
                    exact ⟨rfl, F6.tr E7⟩
                · have t1 : (X == Y) = false := by simp [hXY]
                  have F1 := F4
                  clear hXY
                  rw [t1] at h8
                  go_simp
                  go_wp2_with fail
                  refine (cW.out _ (hT.ext F1)).mono ?_
                  rintro e w9 ⟨rfl, E9⟩
                  go_wp2
                  go_ret
                  exact ⟨rfl, F1.tr E9⟩
          · have d5 : (k == m) = false := by simp [g3]
            have cCl := Kp.mk (cCl0.out (fun h => g3 h.1))
            have p3 := kc.out w3 (Ext.rfl' _)
            have p4 := mc.out w3 (Ext.rfl' _)
            clear g3 gk gm
            go_upto_region 4 with fail
            rw [HW3.out]
            go_upto_region 6 with fail
            refine wp_region_locals (fun i v W => match i with
              | 0 => v = .pointer (some ⟨w.heap.size, 0, none⟩)
              | 1 => v = .string (ofL k)
              | 2 => v = .agg #[.string (ofL ia), .slice A la.length ca, .string ⟨#[]⟩]
              | 3 => v = .string (ofL X)
              | 4 => v = .pointer (some ⟨w.heap.size, 1, none⟩)
              | 5 => v = .string (ofL m)
              | 6 => v = .agg #[.string (ofL ib), .slice B lb.length cb, .string ⟨#[]⟩]
              | 7 => v = .string (ofL Y)
              | 8 => v = .bool (!(X == Y))
              | _ => True) (by kernel_rfl) (by kernel_rfl) (by kernel_rfl) ?_ ?_ ?_
            · intro i v W1 W2 e1 e2 h
              match i, h with
              | 0, h => exact h
              | 1, h => exact h
              | 2, h => exact h
              | 3, h => exact h
              | 4, h => exact h
              | 5, h => exact h
              | 6, h => exact h
              | 7, h => exact h
              | 8, h => exact h
              | (i + 9), h => exact h
            · refine locals_cons (fun u W hW hd => leaves_val rfl (v := .pointer (some ⟨w.heap.size, 0, none⟩)) (by go_simp) rfl) ?_
              refine locals_cons (fun u W hW hd => ?_) ?_
              · have h0 : u 0 = _ := hd 0 (by kernel_rfl)
                have q0 := kc.out W hW
                exact leaves_val rfl (v := .string (ofL k)) (by go_simp) rfl
              refine locals_cons (fun u W hW hd => ?_) ?_
              · obtain ⟨q0, q1, q2⟩ := ac.out W hW
                exact leaves_val rfl (v := .agg #[.string (ofL ia), .slice A la.length ca, .string ⟨#[]⟩]) (by go_simp) rfl
              refine locals_cons (fun u W hW hd => ?_) ?_
              · have h1 : u 1 = _ := hd 1 (by kernel_rfl)
                have h2 : u 2 = _ := hd 2 (by kernel_rfl)
                exact leaves_call rfl (f := 22) (args := #[.string (ofL k), .agg #[.string (ofL ia), .slice A la.length ca, .string ⟨#[]⟩]]) (by go_simp) ((cLa.out W (hT.ext (F3.tr hW)) (rd_at LA.out hW)).mono (by rintro e9 W9 ⟨rfl, h9⟩; exact ⟨_, rfl, h9, rfl⟩))
              refine locals_cons (fun u W hW hd => leaves_val rfl (v := .pointer (some ⟨w.heap.size, 1, none⟩)) (by go_simp) rfl) ?_
              refine locals_cons (fun u W hW hd => ?_) ?_
              · have h4 : u 4 = _ := hd 4 (by kernel_rfl)
                have q0 := mc.out W hW
                exact leaves_val rfl (v := .string (ofL m)) (by go_simp) rfl
              refine locals_cons (fun u W hW hd => ?_) ?_
              · obtain ⟨q0, q1, q2⟩ := bc.out W hW
                exact leaves_val rfl (v := .agg #[.string (ofL ib), .slice B lb.length cb, .string ⟨#[]⟩]) (by go_simp) rfl
              refine locals_cons (fun u W hW hd => ?_) ?_
              · have h5 : u 5 = _ := hd 5 (by kernel_rfl)
                have h6 : u 6 = _ := hd 6 (by kernel_rfl)
                exact leaves_call rfl (f := 22) (args := #[.string (ofL m), .agg #[.string (ofL ib), .slice B lb.length cb, .string ⟨#[]⟩]]) (by go_simp) ((cLb.out W (hT.ext (F3.tr hW)) (rd_at LB.out hW)).mono (by rintro e9 W9 ⟨rfl, h9⟩; exact ⟨_, rfl, h9, rfl⟩))
              refine locals_cons (fun u W hW hd => ?_) locals_nil
              · have h3 : u 3 = _ := hd 3 (by kernel_rfl)
                have h7 : u 7 = _ := hd 7 (by kernel_rfl)
                exact leaves_val rfl (v := .bool (!(X == Y))) (by go_simp) rfl
            · intro u Wa hWa hV
              have h8 : u 8 = .bool (!(X == Y)) := hV 8 (by decide)
              clear hV
              have F4 := F3.tr hWa
              clear r0 r1 r2 r3 r4 r5 r6 r7
              by_cases hXY : X = Y
              · have t1 : (X == Y) = true := by simp [hXY]
                have cC := Kp.mk (cCl.out hXY)
                have RA := Kp.mk (rd_at LA.out hWa); have RB := Kp.mk (rd_at LB.out hWa)
                clear hXY
                rw [t1] at h8
                go_simp
                go_upto_region 8 with fail
                refine wp_region_tails (fun i v W => match i with
                  | 0 => v = .pointer (some ⟨w.heap.size, 0, none⟩)
                  | 1 => v = .string (ofL k)
                  | 2 => v = .agg #[.string (ofL ia), .slice A la.length ca, .string ⟨#[]⟩]
                  | 3 => W.ownsRow w.heap.size 9 1 v (2 + 2 * la.length) ((textsL k ia la).map Str)
                  | 4 => v = .pointer (some ⟨w.heap.size, 1, none⟩)
                  | 5 => v = .string (ofL m)
                  | 6 => v = .agg #[.string (ofL ib), .slice B lb.length cb, .string ⟨#[]⟩]
                  | 7 => Rd W W.heap.size 1 v (2 + 2 * lb.length) ((textsL m ib lb).map Str)
                  | _ => True) 8 (by kernel_rfl) (by kernel_rfl) (by kernel_rfl) (by decide) (by kernel_rfl) (by kernel_rfl) (by kernel_rfl) ?_ ?_ ?_
                · intro i v W1 W2 e1 e2 h
                  match i, h with
                  | 0, h => exact h
                  | 1, h => exact h
                  | 2, h => exact h
                  | 3, h => exact own_ext h (fun j _ hj => e2.block j hj)
                  | 4, h => exact h
                  | 5, h => exact h
                  | 6, h => exact h
                  | 7, h => exact rd_at h e2
                  | (i + 8), h => exact h
                · refine localsR_cons (fun u W hW hd => leaves_val rfl (v := .pointer (some ⟨w.heap.size, 0, none⟩)) (by go_simp) rfl) ?_
                  refine localsR_cons (fun u W hW hd => ?_) ?_
                  · have h0 : u 0 = _ := hd 0 (by kernel_rfl)
                    have q0 := kc.out W (hWa.tr hW)
                    exact leaves_val rfl (v := .string (ofL k)) (by go_simp) rfl
                  refine localsR_cons (fun u W hW hd => ?_) ?_
                  · obtain ⟨q0, q1, q2⟩ := ac.out W (hWa.tr hW)
                    exact leaves_val rfl (v := .agg #[.string (ofL ia), .slice A la.length ca, .string ⟨#[]⟩]) (by go_simp) rfl
                  refine localsR_cons (fun u W hW hd => ?_) ?_
                  · have h1 : u 1 = _ := hd 1 (by kernel_rfl)
                    have h2 : u 2 = _ := hd 2 (by kernel_rfl)
                    exact leaves_call rfl (f := 24) (args := #[.string (ofL k), .agg #[.string (ofL ia), .slice A la.length ca, .string ⟨#[]⟩]]) (by go_simp) ((cTa.out W (rd_at RA.out hW)).mono (by rintro e9 W9 ⟨v9, rfl, o9, h9⟩; exact ⟨v9, rfl, h9, own_more o9 (by have := F4.size; have := hW.size; omega)⟩))
                  refine localsR_cons (fun u W hW hd => leaves_val rfl (v := .pointer (some ⟨w.heap.size, 1, none⟩)) (by go_simp) rfl) ?_
                  refine localsR_cons (fun u W hW hd => ?_) ?_
                  · have h4 : u 4 = _ := hd 4 (by kernel_rfl)
                    have q0 := mc.out W (hWa.tr hW)
                    exact leaves_val rfl (v := .string (ofL m)) (by go_simp) rfl
                  refine localsR_cons (fun u W hW hd => ?_) ?_
                  · obtain ⟨q0, q1, q2⟩ := bc.out W (hWa.tr hW)
                    exact leaves_val rfl (v := .agg #[.string (ofL ib), .slice B lb.length cb, .string ⟨#[]⟩]) (by go_simp) rfl
                  refine localsR_cons (fun u W hW hd => ?_) localsR_nil
                  · have h5 : u 5 = _ := hd 5 (by kernel_rfl)
                    have h6 : u 6 = _ := hd 6 (by kernel_rfl)
                    exact leaves_call rfl (f := 24) (args := #[.string (ofL m), .agg #[.string (ofL ib), .slice B lb.length cb, .string ⟨#[]⟩]]) (by go_simp) ((cTb.out W (rd_at RB.out hW)).mono fun _ _ h => rd_parts h)
                · intro u2 W2 hW2 hV2
                  have own3 : W2.ownsRow w.heap.size 9 1 (u2 3) (2 + 2 * la.length) ((textsL k ia la).map Str) := hV2 3 (by decide)
                  obtain ⟨Ax, cx, h7, _, _, hcx⟩ := hV2 7 (by decide)
                  clear hV2
                  obtain ⟨bx, ox, rfl, hbx, hcx⟩ := hcx (by omega)
                  have F5 := F4.tr hW2
                  have hs5 := F5.size
                  refine wpl_app_at (news := (textsL m ib lb).map Str) Tryd.elemStr rfl _ _ rfl own3 (2 + 2 * lb.length) (by go_simp) (by go_simp; exact ⟨rfl, rfl⟩) (by rw [List.length_map, length_textsL]; omega) (fun j u hu => by rw [WideShapes.add_plain]; exact hcx j u hu) (oneCell_str _) (by omega) (by omega) hs5 ?_
                  intro v6 w6 own6 hg6
                  have F6 := F5.own hg6 own3 (Nat.le_refl _)
                  have hrd := Rd.own own6 (by decide)
                  clear own3 own6 hg6
                  go_wp2_with fail
                  refine (cC.out v6 w6 hrd).mono ?_
                  rintro e w7 ⟨rfl, E7⟩
                  go_wp2
                  go_ret
                  exact ⟨rfl, F6.tr E7⟩
              · have t1 : (X == Y) = false := by simp [hXY]
                have F1 := F4
                clear hXY
                rw [t1] at h8
                go_simp
                go_wp2_with fail
                refine (cW.out _ (hT.ext F1)).mono ?_
                rintro e w9 ⟨rfl, E9⟩
                go_wp2
                go_ret
                exact ⟨rfl, F1.tr E9⟩
    · have d1 : ((k.length : Int) != 32) = false := by simp; omega
      have d2 : ((m.length : Int) != 32) = true := by simp; omega
      clear g1 g2
      go_enter Tryd.func5, Tryd.ntmps5
      go_wp2_with fail
      rw [HW0.out]
      have F1 := E0
      go_wp2_with fail
      refine (cW.out _ (hT.ext F1)).mono ?_
      rintro e w9 ⟨rfl, E9⟩
      go_wp2
      go_ret
      exact ⟨rfl, F1.tr E9⟩
  · have d1 : ((k.length : Int) != 32) = true := by simp; omega
    clear g1
    go_enter Tryd.func5, Tryd.ntmps5
    go_wp2_with fail
    rw [HW0.out]
    have F1 := E0
    go_wp2_with fail
    refine (cW.out _ (hT.ext F1)).mono ?_
    rintro e w9 ⟨rfl, E9⟩
    go_wp2
    go_ret
    exact ⟨rfl, F1.tr E9⟩
end Go.Proofs.YteffocenfkcofaaDoor
