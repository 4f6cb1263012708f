/-
  The statements on tokens: TokenBack returns true. Condition: the library's variable errors.errorType holds the type of error.
-/
import Derived.Test.YtmnpbpfeoackiaaDoorTk7
namespace Go.Proofs.YtmnpbpfeoackiaaDoor
open Go.RowKit

theorem get_tag_le (s : List UInt8) : (tokGetR s).1.tag.length ≤ s.length := by
  unfold tokGetR
  split
  · exact Nat.zero_le _
  · split
    · exact Nat.zero_le _
    · split
      · exact Nat.zero_le _
      · exact tokHeadGet_len s
theorem put_len_le (t : TokL) (h : TokShort t.id t.tag t.links) : (tokPutR t).1.length ≤ 1000000000 ∧ (TokShort t.id t.tag t.links → (tokPutR t).1.length ≤ 2100000) := by
  have key : (tokPutR t).1.length ≤ 2100000 := by
    unfold tokPutR
    split
    · simp
    · split
      · unfold tokHead
        have := fText_len t.id; have := length_vput t.links.length; have := linksPut_len t.links h.2.2.2
        have := h.1; have := h.2.1; have := h.2.2.1
        simp only [List.length_append]
        omega
      · simp
  exact ⟨by omega, fun _ => key⟩
/-- What is put of a token that is not great is short. -/
theorem put_len_small (t : TokL) (h : Small t.id t.tag t.links) : (tokPutR t).1.length ≤ 1000000 := by
  have hsum : ∀ l : List LinkL, (linksPut l).length ≤ linkSum l + 21 * l.length := by
    intro l
    induction l with
    | nil => simp [linksPut, linkSum]
    | cons x l ih =>
      have h1 := fText_len x.1; have h2 := fText_len x.2
      have e1 : linkSum (x :: l) = x.1.length + x.2.length + linkSum l := by simp [linkSum]
      have e2 : (linkPut x).length ≤ x.1.length + x.2.length + 21 := by
        unfold linkPut
        split
        · rw [List.length_cons]; omega
        · rw [List.length_cons, List.length_append]; omega
      rw [show linksPut (x :: l) = linkPut x ++ linksPut l from rfl, List.length_append, List.length_cons, e1]
      omega
  unfold tokPutR
  split
  · simp
  · split
    · unfold tokHead
      have := fText_len t.id; have := length_vput t.links.length; have := hsum t.links
      have := h.1; have := h.2.1; have := h.2.2.1; have := h.2.2.2.2
      simp only [List.length_append]
      omega
    · simp

set_option maxRecDepth 100000 in
set_option maxHeartbeats 4000000 in
theorem tokenBack_walk (id tag : List UInt8) (A : Option Addr) (c : Nat) (l : List LinkL) (s : List UInt8) (w : World) (hT : ErrT w) (hl : RdLinks w w.heap.size (.slice A l.length c) l) (hs : s.length ≤ 9223372036854775807) :
    Calls Tryd.prog 5 #[tokV id (.slice A l.length c) tag, .string (ofL s)] w fun e w' => e = .returned (.bool true) ∧ Ext w w' := by
  obtain ⟨W, hW, E0, A0⟩ : ∃ W, w.alloc (.cells #[.string (ofL id), .slice A l.length c, .string (ofL tag)] 24) = W ∧ Ext w W ∧ Arr W w.heap.size 24 [.string (ofL id), .slice A l.length c, .string (ofL tag)] := ⟨_, rfl, (Ext.rfl' w).al _, Arr.new w _ [.string (ofL id), .slice A l.length c, .string (ofL tag)]⟩
  have HW := Kp.mk hW
  have a0 := A0.cell 0; have a1 := A0.cell 1; have a2 := A0.cell 2
  simp only [List.getElem?_cons_zero, List.getElem?_cons_succ] at a0 a1 a2
  obtain ⟨gb, hgb, cG⟩ := great_det id tag l
  have cG := Kp.mk cG; have HL := Kp.mk hl
  have zs : (ofL s).size = s.length := size_ofL _
  unfold tokV at *
  clear hW hl
  by_cases hg : gb = true ∨ 6000 < s.length
  · cases gb with
    | true =>
      clear hg
      go_enter Tryd.func5, Tryd.ntmps5
      go_wp2_with fail
      rw [HW.out]
      refine (cG.out _ _ (rd_at HL.out E0)).mono ?_
      rintro e w1 ⟨rfl, E1⟩
      have F1 := E0.tr E1
      clear a0 a1 a2 A0
      go_wp2_with fail
      refine (tk_works _ (hT.ext F1)).mono ?_
      rintro e w2 ⟨rfl, E2⟩
      go_wp2
      go_ret
      exact ⟨rfl, F1.tr E2⟩
    | false =>
      have h6 : 6000 < s.length := hg.resolve_left (by decide)
      have d1 : decide ((6000 : Int) < (s.length : Int)) = true := by simp; omega
      clear hg h6 hgb
      go_enter Tryd.func5, Tryd.ntmps5
      go_wp2_with fail
      rw [HW.out]
      refine (cG.out _ _ (rd_at HL.out E0)).mono ?_
      rintro e w1 ⟨rfl, E1⟩
      have F1 := E0.tr E1
      clear a0 a1 a2 A0
      go_wp2_with fail
      refine (tk_works _ (hT.ext F1)).mono ?_
      rintro e w2 ⟨rfl, E2⟩
      go_wp2
      go_ret
      exact ⟨rfl, F1.tr E2⟩
  · have hgf : gb = false := by cases gb <;> simp_all
    subst hgf
    have hs6 : s.length ≤ 6000 := by omega
    have d1 : decide ((6000 : Int) < (s.length : Int)) = false := by simp; omega
    have hsm := hgb.1 rfl
    have hsh := toksmall_short hsm
    have cP := Kp.mk (fun (W : World) (hE : Ext w W) => tkput_any id tag (.slice A l.length c) l W (hT.ext hE) (rd_at HL.out hE) hsh.2.1)
    have cB := fun W => tkget_any s W (by omega)
    have hbt := get_tag_le s
    have hback := fun h => tokPut_get (s := s) h
    obtain ⟨⟨⟨bi, bl, bt⟩, g⟩, hR⟩ : ∃ R, tokGetR s = R := ⟨_, rfl⟩
    simp only [hR] at cB
    rw [hR] at hbt hback
    dsimp only at hbt hback
    replace hbt : bt.length ≤ 10000 := by omega
    unfold TokGot at cB
    unfold tokV at cB cP
    dsimp only at cB
    have cB := Kp.mk cB
    have hback := Kp.mk hback
    have hXl := put_len_small ⟨id, l, tag⟩ hsm
    have hfwd := fun h => tokGet_put (t := ⟨id, l, tag⟩) h
    obtain ⟨⟨X, x⟩, hX⟩ : ∃ R, tokPutR ⟨id, l, tag⟩ = R := ⟨_, rfl⟩
    simp only [hX] at cP
    rw [hX] at hXl hfwd
    dsimp only at hXl hfwd
    have cF := Kp.mk (fun W => tkget_any X W (by omega))
    clear hR hX hsm hsh hgb hg
    go_enter Tryd.func5, Tryd.ntmps5
    go_wp2_with fail
    rw [HW.out]
    refine (cG.out _ _ (rd_at HL.out E0)).mono ?_
    rintro e w1 ⟨rfl, E1⟩
    have F1 := E0.tr E1
    have A1 := A0.ext E1 A0.lt
    clear a0 a1 a2 A0 E0 E1 HW cG
    have a0 := A1.cell 0; have a1 := A1.cell 1; have a2 := A1.cell 2
    simp only [List.getElem?_cons_zero, List.getElem?_cons_succ] at a0 a1 a2
    go_wp2_with fail
    refine (cP.out _ F1).mono ?_
    rintro e w2 ⟨rfl, E2⟩
    have F2 := F1.tr E2
    have A2 := A1.ext E2 A1.lt
    clear a0 a1 a2 A1 F1 E2 cP
    have a0 := A2.cell 0; have a1 := A2.cell 1; have a2 := A2.cell 2
    simp only [List.getElem?_cons_zero, List.getElem?_cons_succ] at a0 a1 a2
    by_cases hx : x = 0
    · have hf := hfwd hx
      have cF2 := cF.out
      subst hx
      simp only [hf] at cF2
      unfold TokGot tokV at cF2
      dsimp only at cF2
      have cF2 := Kp.mk cF2
      clear hf hfwd cF
      go_wp2_with fail
      refine (cF2.out _).mono ?_
      rintro e w3 ⟨v3, rfl, own3, E3⟩
      obtain ⟨A3, c3, rfl⟩ := own_slice own3
      have r3 := own_links own3 rfl
      obtain ⟨U, hU, EU, DU⟩ : ∃ V, w3.alloc (.cells #[.string (ofL id), .slice A3 l.length c3, .string (ofL tag)] 24) = V ∧ Ext w3 V ∧ Arr V w3.heap.size 24 [.string (ofL id), .slice A3 l.length c3, .string (ofL tag)] := ⟨_, rfl, (Ext.rfl' w3).al _, Arr.new w3 _ [.string (ofL id), .slice A3 l.length c3, .string (ofL tag)]⟩
      have F4 := (F2.tr E3).tr EU
      have D4 := (A2.ext E3 A2.lt).ext EU (by have := E3.size; have := A2.lt; omega)
      have r4 := rd_at r3 EU
      have cE := Kp.mk (sameToken_any id tag (.slice A3 l.length c3) l id tag (.slice A l.length c) l U r4 (rd_at HL.out F4))
      have HS := Kp.mk (show sameTok id tag l id tag l = true from decide_eq_true ⟨rfl, rfl, rfl⟩)
      have HU := Kp.mk hU
      clear hU own3 E3 EU r3 r4 F2 A2 a0 a1 a2 cF2
      go_upto_region 6 with fail
      rw [HU.out]
      clear HU
      have a0 := D4.cell 0; have a1 := D4.cell 1; have a2 := D4.cell 2
      have b0 := DU.cell 0; have b1 := DU.cell 1; have b2 := DU.cell 2
      simp only [List.getElem?_cons_zero, List.getElem?_cons_succ] at a0 a1 a2 b0 b1 b2
      go_wp2_with fail
      refine cE.out.mono ?_
      rw [HS.out]
      rintro e w4 ⟨rfl, E4⟩
      have FR := F4.tr E4
      clear a0 a1 a2 b0 b1 b2 D4 DU F4 E4 cE
      go_wp2_with fail
      refine (cB.out _).mono ?_
      rintro e w5 ⟨v5, rfl, own5, E5⟩
      obtain ⟨A5, c5, rfl⟩ := own_slice own5
      have r5 := own_links own5 rfl
      obtain ⟨V5, hV5, EV5, D5⟩ : ∃ V, w5.alloc (.cells #[.string (ofL bi), .slice A5 bl.length c5, .string (ofL bt)] 24) = V ∧ Ext w5 V ∧ Arr V w5.heap.size 24 [.string (ofL bi), .slice A5 bl.length c5, .string (ofL bt)] := ⟨_, rfl, (Ext.rfl' w5).al _, Arr.new w5 _ [.string (ofL bi), .slice A5 bl.length c5, .string (ofL bt)]⟩
      have F6 := (FR.tr E5).tr EV5
      have r6 := rd_at r5 EV5
      have cC := Kp.mk (tkput_any bi bt (.slice A5 bl.length c5) bl V5 (hT.ext F6) r6 hbt)
      have HV5 := Kp.mk hV5
      clear hV5 own5 E5 EV5 r5 r6 FR cB
      go_upto_region 9 with fail
      rw [HV5.out]
      clear HV5
      have b0 := D5.cell 0; have b1 := D5.cell 1; have b2 := D5.cell 2
      simp only [List.getElem?_cons_zero, List.getElem?_cons_succ] at b0 b1 b2
      go_wp2_with fail
      refine cC.out.mono ?_
      rintro e w7 ⟨rfl, E7⟩
      have F7 := F6.tr E7
      clear b0 b1 b2 D5 F6 E7 cC
      by_cases hg : g = 0
      · have hp := hback.out hg
        subst hg
        rw [hp]
        dsimp only
        clear hp hback
        go_wp2_with fail
        refine (tk_works _ (hT.ext F7)).mono ?_
        rintro e w8 ⟨rfl, E8⟩
        go_wp2
        go_ret
        exact ⟨rfl, F7.tr E8⟩
      · have t9 : (g != 0) = true := bne_int_t hg
        clear hg hback
        go_wp2_with fail
        refine (tk_works _ (hT.ext F7)).mono ?_
        rintro e w8 ⟨rfl, E8⟩
        go_wp2
        go_ret
        exact ⟨rfl, F7.tr E8⟩
    · have tx : ((x : Int) == 0) = false := by simp; omega
      have FR := F2
      clear hx hfwd cF F2 A2 a0 a1 a2
      go_wp2_with fail
      refine (cB.out _).mono ?_
      rintro e w5 ⟨v5, rfl, own5, E5⟩
      obtain ⟨A5, c5, rfl⟩ := own_slice own5
      have r5 := own_links own5 rfl
      obtain ⟨V5, hV5, EV5, D5⟩ : ∃ V, w5.alloc (.cells #[.string (ofL bi), .slice A5 bl.length c5, .string (ofL bt)] 24) = V ∧ Ext w5 V ∧ Arr V w5.heap.size 24 [.string (ofL bi), .slice A5 bl.length c5, .string (ofL bt)] := ⟨_, rfl, (Ext.rfl' w5).al _, Arr.new w5 _ [.string (ofL bi), .slice A5 bl.length c5, .string (ofL bt)]⟩
      have F6 := (FR.tr E5).tr EV5
      have r6 := rd_at r5 EV5
      have cC := Kp.mk (tkput_any bi bt (.slice A5 bl.length c5) bl V5 (hT.ext F6) r6 hbt)
      have HV5 := Kp.mk hV5
      clear hV5 own5 E5 EV5 r5 r6 FR cB
      go_upto_region 9 with fail
      rw [HV5.out]
      clear HV5
      have b0 := D5.cell 0; have b1 := D5.cell 1; have b2 := D5.cell 2
      simp only [List.getElem?_cons_zero, List.getElem?_cons_succ] at b0 b1 b2
      go_wp2_with fail
      refine cC.out.mono ?_
      rintro e w7 ⟨rfl, E7⟩
      have F7 := F6.tr E7
      clear b0 b1 b2 D5 F6 E7 cC
      by_cases hg : g = 0
      · have hp := hback.out hg
        subst hg
        rw [hp]
        dsimp only
        clear hp hback
        go_wp2_with fail
        refine (tk_works _ (hT.ext F7)).mono ?_
        rintro e w8 ⟨rfl, E8⟩
        go_wp2
        go_ret
        exact ⟨rfl, F7.tr E8⟩
      · have t9 : (g != 0) = true := bne_int_t hg
        clear hg hback
        go_wp2_with fail
        refine (tk_works _ (hT.ext F7)).mono ?_
        rintro e w8 ⟨rfl, E8⟩
        go_wp2
        go_ret
        exact ⟨rfl, F7.tr E8⟩
end Go.Proofs.YtmnpbpfeoackiaaDoor
