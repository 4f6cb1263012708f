/-
  Package token: write, Put, Size. Conditions: the library's variable errors.errorType holds the type of error; the texts are at most 10000 bytes, at most 100 links.
-/
import Derived.Test.YtmnpbpfeoackiaaDoorTk1
import Derived.Test.YtmnpbpfeoackiaaDoorFldTx
import Derived.Test.YtmnpbpfeoackiaaDoorBldK
namespace Go.Proofs.YtmnpbpfeoackiaaDoor
open Go.RowKit

/-- A token whose parts are short. -/
def TokShort (id tag : List UInt8) (l : List LinkL) : Prop := id.length ≤ 10000 ∧ tag.length ≤ 10000 ∧ l.length ≤ 100 ∧ ∀ x ∈ l, x.1.length ≤ 10000 ∧ x.2.length ≤ 10000
theorem fText_len (a : List UInt8) : (fText a).length ≤ a.length + 10 := by
  unfold fText
  have := length_vput a.length
  rw [List.length_append]; omega
theorem linkPut_len (x : LinkL) (h : x.1.length ≤ 10000 ∧ x.2.length ≤ 10000) : (linkPut x).length ≤ 20030 := by
  have h1 := fText_len x.1
  have h2 := fText_len x.2
  unfold linkPut
  split
  · rw [List.length_cons]; omega
  · rw [List.length_cons, List.length_append]; omega
theorem linksPut_len (l : List LinkL) (h : ∀ x ∈ l, x.1.length ≤ 10000 ∧ x.2.length ≤ 10000) : (linksPut l).length ≤ 20030 * l.length := by
  induction l with
  | nil => simp [linksPut]
  | cons x l ih =>
    rw [show linksPut (x :: l) = linkPut x ++ linksPut l from rfl, List.length_append, List.length_cons]
    have := linkPut_len x (h x (by simp))
    have := ih (fun y hy => h y (by simp [hy]))
    omega
theorem linksPut_take (l : List LinkL) (k : Nat) (h : k < l.length) : linksPut (l.take (k + 1)) = linksPut (l.take k) ++ linkPut l[k] := by
  rw [List.take_succ_eq_append_getElem h, linksPut_append, linksPut_one]
set_option maxRecDepth 100000 in
set_option maxHeartbeats 4000000 in
theorem write_any (id tag : List UInt8) (vl : Value) (l : List LinkL) (w : World) (hl : RdLinks w w.heap.size vl l) (hs : TokShort id tag l) : Calls Tryd.prog 46 #[tokV id vl tag] w fun e w' => e = .returned (.string (ofL (tokHead id l ++ tag))) ∧ Ext w w' := by
  obtain ⟨A, c, rfl, hlm, hcells⟩ := hl.cells
  obtain ⟨hi, ht, hln, hls⟩ := hs
  have HC := Kp.mk hcells; have HLS := Kp.mk hls
  have A0 := Arr.new w 24 [.string (ofL id), .slice A l.length c, .string (ofL tag)]
  have E0 : Ext w (w.alloc (.cells [.string (ofL id), .slice A l.length c, .string (ofL tag)].toArray 24)) := (Ext.rfl' w).al _
  obtain ⟨W0, hW0⟩ : ∃ W0, w.alloc (.cells [.string (ofL id), .slice A l.length c, .string (ofL tag)].toArray 24) = W0 := ⟨_, rfl⟩
  rw [hW0] at A0 E0
  have B1 := fresh_isBuilderF W0
  have A1 := A0.alloc (.cells #[.pointer none, .slice none 0 0] 101)
  have E1 := E0.al (.cells #[.pointer none, .slice none 0 0] 101)
  have hsz : W0.heap.size = w.heap.size + 1 := by rw [← hW0]; simp
  obtain ⟨W1, hW1⟩ : ∃ W1, W0.alloc (.cells #[.pointer none, .slice none 0 0] 101) = W1 := ⟨_, rfl⟩
  rw [hW1, hsz] at B1
  rw [hW1] at A1 E1
  have HW := Kp.mk (show (w.alloc (.cells #[.string (ofL id), .slice A l.length c, .string (ofL tag)] 24)).alloc (.cells #[.pointer none, .slice none 0 0] 101) = W1 by rw [← hW1, ← hW0])
  have hu : IntKind.u64.wrap (l.length : Int) = (l.length : Int) := U64.wrap (by show _ < _; omega)
  have cT := Kp.mk (show ∀ (a : List UInt8) (W : World), a.length ≤ 10000 → Calls Tryd.prog 64 #[.string (ofL a)] W fun e w' => e = .returned (.string (ofL (fText a))) ∧ Ext W w' from fun a W h => by
    have q := ftext_any (ofL a) W (by rw [size_ofL]; omega)
    rw [toL_ofL] at q
    exact q)
  have hlT := Kp.mk (fun a => fText_len a)
  have hTK := Kp.mk (show ∀ k, k ≤ l.length → (linksPut (l.take k)).length ≤ 20030 * k from fun k hk => by
    have q := linksPut_len (l.take k) (fun x hx => HLS.out x (List.mem_of_mem_take hx))
    rw [List.length_take, Nat.min_eq_left hk] at q
    exact q)
  unfold tokV
  clear hcells hl hls A0 E0 hW0 hW1
  go_enter Tryd.func46, Tryd.ntmps46
  go_upto_region 2 with fail
  rw [HW.out]
  clear HW
  have q0 := A1.cell 0
  simp only [List.getElem?_cons_zero] at q0
  go_wp2_with fail
  refine (cT.out id _ hi).mono ?_
  rintro e w2 ⟨rfl, E2⟩
  have B2 := isBuilderF_ext B1 E2
  have A2 := A1.ext E2 A1.lt
  have F2 := E1.tr E2
  clear B1 A1 E1 E2 q0
  have lid := hlT.out id
  go_wp2_with fail
  refine (bk_write _ _ [] (fText id) _ B2 (by simp; omega) (by have := A2.lt; omega)).mono ?_
  rintro e w3 ⟨rfl, B3, H3, _⟩
  rw [List.nil_append] at B3
  have A3 := A2.ext H3 (by omega)
  have F3 : Ext w w3 := F2.trans (H3.mono (by omega))
  clear B2 A2 F2 H3
  have q1 := A3.cell 1
  simp only [List.getElem?_cons_zero, List.getElem?_cons_succ] at q1
  go_wp2_with fail
  refine (fnum_any l.length _ (by show _ < _; omega)).mono ?_
  rintro e w4 ⟨rfl, E4⟩
  have B4 := isBuilderF_ext B3 E4
  have A4 := A3.ext E4 A3.lt
  have F4 := F3.tr E4
  have lv := length_vput l.length
  clear B3 A3 F3 E4 q1
  go_wp2_with fail
  refine (bk_write _ _ (fText id) (vput l.length) _ B4 (by omega) (by have := A4.lt; omega)).mono ?_
  rintro e w5 ⟨rfl, B5, H5, _⟩
  have A5 := A4.ext H5 (by omega)
  have F5 : Ext w w5 := F4.trans (H5.mono (by omega))
  clear B4 A4 F4 H5
  have q1 := A5.cell 1
  simp only [List.getElem?_cons_zero, List.getElem?_cons_succ] at q1
  obtain ⟨H, hH⟩ : ∃ H, fText id ++ vput l.length = H := ⟨_, rfl⟩
  have lH : H.length ≤ id.length + 20 := by rw [← hH, List.length_append]; omega
  rw [hH] at B5
  have HH := Kp.mk hH
  clear hH lv lid
  go_wp2_with fail
  go_loopw [19] (fun i wr => ∃ k : Nat, k ≤ l.length ∧ i = .int .i64 k ∧ Ext w wr ∧ Arr wr w.heap.size 24 [.string (ofL id), .slice A l.length c, .string (ofL tag)] ∧ Lib.IsBuilderF 101 5 (w.heap.size + 1) (w.heap.size + 1) (Lib.byteCells (H ++ linksPut (l.take k))) wr) (fun i _ => l.length - (intOf i).toNat)
  case atStart => exact ⟨0, by omega, rfl, F5, A5, by simpa [linksPut] using B5⟩
  case round =>
    clear F5 A5 B5 q1
    obtain ⟨k, hk, rfl, hE, hA, hB⟩ := hrel
    by_cases hlt : k < l.length
    · obtain ⟨b, off, rfl, hb, hc⟩ := HC.out (by omega)
      obtain ⟨⟨xa, xb⟩, hxe⟩ : ∃ x, l[k] = x := ⟨_, rfl⟩
      have q1 := ((bcell hE).1 b (off + k * 2) hb).trans (hc k hlt).1
      have q2 := ((bcell hE).1 b (off + k * 2 + 1) hb).trans (hc k hlt).2
      rw [hxe] at q1 q2
      have hxl := HLS.out (xa, xb) (by rw [← hxe]; exact List.getElem_mem hlt)
      dsimp only at hxl
      obtain ⟨L, hL⟩ : ∃ L, linksPut (l.take k) = L := ⟨_, rfl⟩
      have lL : L.length ≤ 20030 * k := by rw [← hL]; exact hTK.out k (by omega)
      have hto := Kp.mk (show linksPut (l.take (k + 1)) = L ++ linkPut (xa, xb) by rw [linksPut_take l k hlt, hxe, hL])
      rw [hL] at hB
      obtain ⟨V, hV, EV, DV⟩ : ∃ V, wr.alloc (.cells #[.string (ofL xa), .string (ofL xb)] 74) = V ∧ Ext wr V ∧ Arr V wr.heap.size 74 [.string (ofL xa), .string (ofL xb)] := ⟨_, rfl, (Ext.rfl' wr).al _, Arr.new wr _ [.string (ofL xa), .string (ofL xb)]⟩
      have HV := Kp.mk hV
      have hbl := hA.lt
      have hbl2 : w.heap.size + 1 < wr.heap.size := hB.elim (fun h => h.lt) (fun h => h.lt)
      have B6 := isBuilderF_ext hB EV
      have A6 := hA.ext EV hA.lt
      have F6 := hE.tr EV
      have ta := hlT.out xa; have tb := hlT.out xb
      have lO : (H ++ L).length ≤ 3000000 := by rw [List.length_append]; omega
      clear hc hxe hL hB hA hE EV hV lL
      go_upto_region 7 with fail
      rw [HV.out]
      clear HV q1 q2
      have l0 := DV.cell 0; have l1 := DV.cell 1
      simp only [List.getElem?_cons_zero, List.getElem?_cons_succ] at l0 l1
      by_cases hx : xb = []
      · subst hx
        go_wp2_with fail
        refine (bk_byte _ _ (H ++ L) 0 (by omega) _ B6 (by omega) (by have := A6.lt; omega)).mono ?_
        rintro e w7 ⟨rfl, B7, H7, O7⟩
        have A7 := A6.ext H7 (by omega)
        have F7 : Ext w w7 := F6.trans (H7.mono (by omega))
        have D7 := arr_others O7 DV (by omega) (by decide)
        clear B6 A6 F6 DV H7 O7 l0 l1
        have l0 := D7.cell 0
        simp only [List.getElem?_cons_zero] at l0
        go_wp2_with fail
        refine (cT.out xa _ hxl.1).mono ?_
        rintro e w8 ⟨rfl, E8⟩
        have B8 := isBuilderF_ext B7 E8
        have A8 := A7.ext E8 A7.lt
        have F8 := F7.tr E8
        clear B7 A7 F7 E8 D7 l0
        go_wp2_with fail
        refine (bk_write _ _ (H ++ L ++ [0]) (fText xa) _ B8 (by rw [List.length_append, List.length_singleton]; omega) (by have := A8.lt; omega)).mono ?_
        rintro e w9 ⟨rfl, B9, H9, _⟩
        have A9 := A8.ext H9 (by omega)
        have F9 : Ext w w9 := F8.trans (H9.mono (by omega))
        clear B8 A8 F8 H9
        have hfin := Kp.mk (show H ++ L ++ [0] ++ fText xa = H ++ linksPut (l.take (k + 1)) by rw [hto.out]; simp [linkPut])
        go_wp2
        go_roundw
        case rel => exact ⟨k + 1, by omega, by go_num, F9, A9, by rw [← hfin.out]; exact B9⟩
        case measure => simp [intOf]; omega
      · have d4 : xb.isEmpty = false := isEmpty_ne hx
        have hfin := Kp.mk (show H ++ L ++ [1] ++ fText xa ++ fText xb = H ++ linksPut (l.take (k + 1)) by rw [hto.out]; simp [linkPut, hx])
        clear hx
        go_wp2_with fail
        refine (bk_byte _ _ (H ++ L) 1 (by omega) _ B6 (by omega) (by have := A6.lt; omega)).mono ?_
        rintro e w7 ⟨rfl, B7, H7, O7⟩
        have A7 := A6.ext H7 (by omega)
        have F7 : Ext w w7 := F6.trans (H7.mono (by omega))
        have D7 := arr_others O7 DV (by omega) (by decide)
        clear B6 A6 F6 DV H7 O7 l0 l1
        have l0 := D7.cell 0
        simp only [List.getElem?_cons_zero] at l0
        go_wp2_with fail
        refine (cT.out xa _ hxl.1).mono ?_
        rintro e w8 ⟨rfl, E8⟩
        have B8 := isBuilderF_ext B7 E8
        have A8 := A7.ext E8 A7.lt
        have F8 := F7.tr E8
        have D8 := D7.ext E8 D7.lt
        clear B7 A7 F7 E8 D7 l0
        go_wp2_with fail
        refine (bk_write _ _ (H ++ L ++ [1]) (fText xa) _ B8 (by rw [List.length_append, List.length_singleton]; omega) (by have := A8.lt; omega)).mono ?_
        rintro e w9 ⟨rfl, B9, H9, O9⟩
        have A9 := A8.ext H9 (by omega)
        have F9 : Ext w w9 := F8.trans (H9.mono (by omega))
        have D9 := arr_others O9 D8 (by omega) (by decide)
        clear B8 A8 F8 H9 O9 D8
        have l1 := D9.cell 1
        simp only [List.getElem?_cons_zero, List.getElem?_cons_succ] at l1
        go_wp2_with fail
        refine (cT.out xb _ hxl.2).mono ?_
        rintro e w10 ⟨rfl, E10⟩
        have B10 := isBuilderF_ext B9 E10
        have A10 := A9.ext E10 A9.lt
        have F10 := F9.tr E10
        clear B9 A9 F9 E10 D9 l1
        go_wp2_with fail
        refine (bk_write _ _ (H ++ L ++ [1] ++ fText xa) (fText xb) _ B10 (by rw [List.length_append, List.length_append, List.length_singleton]; omega) (by have := A10.lt; omega)).mono ?_
        rintro e w11 ⟨rfl, B11, H11, _⟩
        have A11 := A10.ext H11 (by omega)
        have F11 : Ext w w11 := F10.trans (H11.mono (by omega))
        clear B10 A10 F10 H11
        go_wp2
        go_roundw
        case rel => exact ⟨k + 1, by omega, by go_num, F11, A11, by rw [← hfin.out]; exact B11⟩
        case measure => simp [intOf]; omega
    · rw [List.take_of_length_le (by omega)] at hB
      have hT := hTK.out l.length (Nat.le_refl _)
      rw [List.take_length] at hT
      obtain ⟨O, hO⟩ : ∃ O, H ++ linksPut l = O := ⟨_, rfl⟩
      have lO : O.length ≤ 3000000 := by rw [← hO, List.length_append]; omega
      have hfin := Kp.mk (show O ++ tag = tokHead id l ++ tag by rw [← hO, ← HH.out]; rfl)
      rw [hO] at hB
      have q2 := hA.cell 2
      simp only [List.getElem?_cons_zero, List.getElem?_cons_succ] at q2
      clear hO hT
      go_wp2_with fail
      refine (bk_write _ _ O tag _ hB (by omega) (by have := hA.lt; omega)).mono ?_
      rintro e w7 ⟨rfl, B7, H7, _⟩
      have A7 := hA.ext H7 (by omega)
      have F7 : Ext w w7 := hE.trans (H7.mono (by omega))
      clear hB hA hE H7 q2
      go_wp2_with fail
      refine (bk_string _ _ _ _ B7 (by have := A7.lt; omega)).mono ?_
      rintro e w8 ⟨rfl, _, H8, _⟩
      go_wp2
      go_ret
      exact ⟨by rw [← hfin.out]; rfl, F7.trans (H8.mono (by omega))⟩

/-- Put, Size. -/
theorem tokShort_of (id tag : List UInt8) (l : List LinkL) (h : tokBad ⟨id, l, tag⟩ = false) (ht : tag.length ≤ 10000) : TokShort id tag l := by
  unfold tokBad at h
  rw [Bool.or_eq_false_iff, Bool.or_eq_false_iff, decide_eq_false_iff_not, decide_eq_false_iff_not] at h
  obtain ⟨⟨h1, h2⟩, h3⟩ := h
  dsimp only at h1 h2 h3
  refine ⟨by omega, ht, by omega, fun x hx => ?_⟩
  have h4 : longL x = false := by
    have := List.any_eq_false.1 h3 x hx
    simpa using this
  unfold longL at h4
  split at h4
  · rename_i h5
    rw [h5]
    rw [decide_eq_false_iff_not] at h4
    exact ⟨by omega, by simp⟩
  · rw [Bool.or_eq_false_iff, decide_eq_false_iff_not, decide_eq_false_iff_not] at h4
    omega
set_option maxRecDepth 100000 in
set_option maxHeartbeats 2000000 in
theorem tkput_any (id tag : List UInt8) (vl : Value) (l : List LinkL) (w : World) (hT : ErrT w) (hl : RdLinks w w.heap.size vl l) (ht : tag.length ≤ 10000) :
    Calls Tryd.prog 14 #[tokV id vl tag] w fun e w' => e = .returned (.tuple #[.string (ofL (tokPutR ⟨id, l, tag⟩).1), .int .i64 (tokPutR ⟨id, l, tag⟩).2]) ∧ Ext w w' := by
  obtain ⟨W, hW, E0, A0⟩ : ∃ W, w.alloc (.cells #[.string (ofL id), vl, .string (ofL tag)] 24) = W ∧ Ext w W ∧ Arr W w.heap.size 24 [.string (ofL id), vl, .string (ofL tag)] := ⟨_, rfl, (Ext.rfl' w).al _, Arr.new w _ [.string (ofL id), vl, .string (ofL tag)]⟩
  have c0 := A0.cell 0; have c1 := A0.cell 1; have c2 := A0.cell 2
  simp only [List.getElem?_cons_zero, List.getElem?_cons_succ] at c0 c1 c2
  have cC := check_any id tag vl l W (rd_at hl E0)
  have z2 : (ofL tag).size = tag.length := size_ofL _
  cases hb : tokBad ⟨id, l, tag⟩ with
  | true =>
    rw [hb] at cC
    rw [show tokPutR ⟨id, l, tag⟩ = ([], 3) by unfold tokPutR; rw [hb, if_pos rfl]]
    have cC := Kp.mk cC
    clear hb hl
    unfold tokV at *
    go_enter Tryd.func14, Tryd.ntmps14
    go_wp2_with fail
    refine cC.out.mono ?_
    rintro e w1 ⟨E1, (⟨h, _⟩ | ⟨_, b, rfl, hbb, hA⟩)⟩
    · cases h
    · have cN := number_hit b 3 w1 ((hT.ext E0).ext E1) hA
      have F1 := E0.tr E1
      clear hA E1 cC
      go_wp2_with fail
      refine cN.mono ?_
      rintro e w2 ⟨rfl, E2⟩
      go_wp2
      go_ret2
      exact ⟨rfl, F1.tr E2⟩
  | false =>
    rw [hb] at cC
    have hsh := tokShort_of id tag l hb ht
    have cC := Kp.mk cC
    have hrd := Kp.mk hl
    by_cases h2 : tag.length = 32
    · rw [show tokPutR ⟨id, l, tag⟩ = (tokHead id l ++ tag, 0) by unfold tokPutR; rw [hb, if_neg (by decide), if_pos h2]]
      have d1 : ((tag.length : Int) != 32) = false := by simp; omega
      have cW := Kp.mk (fun (W' : World) (h : Ext w W') => write_any id tag vl l W' (rd_at hrd.out h) hsh)
      clear hb hl h2
      unfold tokV at *
      go_enter Tryd.func14, Tryd.ntmps14
      go_wp2_with fail
      refine cC.out.mono ?_
      rintro e w1 ⟨E1, (⟨_, rfl⟩ | ⟨h, _⟩)⟩
      · have F1 := E0.tr E1
        have A1 := A0.ext E1 A0.lt
        clear c0 c1 c2 A0
        go_wp2_with fail
        refine (number_nil _).mono ?_
        rintro e w2 ⟨rfl, E2⟩
        have F2 := F1.tr E2
        have A2 := A1.ext E2 A1.lt
        have c0 := A2.cell 0; have c1 := A2.cell 1; have c2 := A2.cell 2
        simp only [List.getElem?_cons_zero, List.getElem?_cons_succ] at c0 c1 c2
        clear F1 A1 E1 E2
        go_wp2_with fail
        refine (cW.out _ F2).mono ?_
        rintro e w3 ⟨rfl, E3⟩
        go_wp2
        go_ret2
        exact ⟨rfl, F2.tr E3⟩
      · cases h
    · rw [show tokPutR ⟨id, l, tag⟩ = ([], 7) by unfold tokPutR; rw [hb, if_neg (by decide), if_neg h2]]
      have d1 : ((tag.length : Int) != 32) = true := by simp; omega
      clear hb hl h2
      unfold tokV at *
      go_enter Tryd.func14, Tryd.ntmps14
      go_wp2_with fail
      refine cC.out.mono ?_
      rintro e w1 ⟨E1, (⟨_, rfl⟩ | ⟨h, _⟩)⟩
      · have F1 := E0.tr E1
        have A1 := A0.ext E1 A0.lt
        clear c0 c1 c2 A0
        go_wp2_with fail
        refine (number_nil _).mono ?_
        rintro e w2 ⟨rfl, E2⟩
        have F2 := F1.tr E2
        have A2 := A1.ext E2 A1.lt
        have c0 := A2.cell 0; have c1 := A2.cell 1; have c2 := A2.cell 2
        simp only [List.getElem?_cons_zero, List.getElem?_cons_succ] at c0 c1 c2
        clear F1 A1 E1 E2
        go_wp2
        go_ret2
        exact ⟨rfl, F2⟩
      · cases h
set_option maxRecDepth 100000 in
set_option maxHeartbeats 2000000 in
theorem tksize_any (id tag : List UInt8) (vl : Value) (l : List LinkL) (w : World) (hl : RdLinks w w.heap.size vl l) :
    Calls Tryd.prog 16 #[tokV id vl tag] w fun e w' => e = .returned (.int .i64 (tokSize ⟨id, l, tag⟩)) ∧ Ext w w' := by
  obtain ⟨W, hW, E0, A0⟩ : ∃ W, w.alloc (.cells #[.string (ofL id), vl, .string (ofL tag)] 24) = W ∧ Ext w W ∧ Arr W w.heap.size 24 [.string (ofL id), vl, .string (ofL tag)] := ⟨_, rfl, (Ext.rfl' w).al _, Arr.new w _ [.string (ofL id), vl, .string (ofL tag)]⟩
  have c0 := A0.cell 0; have c1 := A0.cell 1; have c2 := A0.cell 2
  simp only [List.getElem?_cons_zero, List.getElem?_cons_succ] at c0 c1 c2
  have cC := check_any id tag vl l W (rd_at hl E0)
  cases hb : tokBad ⟨id, l, tag⟩ with
  | true =>
    rw [hb] at cC
    rw [show tokSize ⟨id, l, tag⟩ = 0 by unfold tokSize; rw [hb, if_pos rfl]]
    have cC := Kp.mk cC
    clear hb hl
    unfold tokV at *
    go_enter Tryd.func16, Tryd.ntmps16
    go_wp2_with fail
    refine cC.out.mono ?_
    rintro e w1 ⟨E1, (⟨h, _⟩ | ⟨_, b, rfl, hbb, hA⟩)⟩
    · cases h
    · go_wp2
      go_ret
      exact ⟨rfl, E0.tr E1⟩
  | false =>
    rw [hb] at cC
    have hsh : TokShort id [] l := tokShort_of id [] l hb (by simp)
    have cC := Kp.mk cC
    have hrd := Kp.mk hl
    rw [show tokSize ⟨id, l, tag⟩ = (tokHead id l).length + 32 by unfold tokSize; rw [hb, if_neg (by decide)]]
    have cW := Kp.mk (fun (W' : World) (h : Ext w W') => write_any id [] vl l W' (rd_at hrd.out h) hsh)
    have hlen : (tokHead id l).length ≤ 3000000 := by
      unfold tokHead
      have := fText_len id; have := length_vput l.length; have := linksPut_len l hsh.2.2.2; have := hsh.1; have := hsh.2.2.1
      simp only [List.length_append]; omega
    simp only [List.append_nil] at cW
    have z4 : (ofL (tokHead id l)).size = (tokHead id l).length := size_ofL _
    obtain ⟨O, hO⟩ : ∃ O, tokHead id l = O := ⟨_, rfl⟩
    rw [hO] at cW hlen z4 ⊢
    clear hb hl hO
    unfold tokV at *
    go_enter Tryd.func16, Tryd.ntmps16
    go_wp2_with fail
    refine cC.out.mono ?_
    rintro e w1 ⟨E1, (⟨_, rfl⟩ | ⟨h, _⟩)⟩
    · have F1 := E0.tr E1
      have A1 := A0.ext E1 A0.lt
      have A2 := A1.set 2 (.string (ofL []))
      have F2 := F1.st (p := ⟨w.heap.size, 2, none⟩) (Nat.le_refl _) (.string (ofL []))
      have c2' := A1.cell 2; have z2 := A1.frozen 2
      obtain ⟨W2, hW2⟩ : ∃ W2, w1.setCell ⟨w.heap.size, 2, none⟩ (.string (ofL [])) = W2 := ⟨_, rfl⟩
      rw [hW2] at A2 F2
      have HW2 := Kp.mk (show w1.setCell ⟨w.heap.size, 2, none⟩ (.string ⟨#[]⟩) = W2 from hW2)
      simp only [List.getElem?_cons_zero, List.getElem?_cons_succ] at c2'
      clear c0 c1 c2 A0 hW2
      go_upto_region 4 with fail
      rw [HW2.out]
      have c0 := A2.cell 0; have c1 := A2.cell 1; have c2 := A2.cell 2
      simp only [List.getElem?_cons_zero, List.getElem?_cons_succ, List.set] at c0 c1 c2
      clear HW2 c2' z2 A1 F1 E1
      go_wp2_with fail
      refine (cW.out _ F2).mono ?_
      rintro e w3 ⟨rfl, E3⟩
      go_wp2
      go_ret
      exact ⟨rfl, F2.tr E3⟩
    · cases h
end Go.Proofs.YtmnpbpfeoackiaaDoor
