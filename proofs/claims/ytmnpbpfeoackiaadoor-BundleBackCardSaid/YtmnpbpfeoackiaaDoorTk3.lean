/-
  The reference's token: long, Put. Conditions: the texts are at most 10000 bytes, at most 100 links where the token is gone through.
-/
import Derived.Test.YtmnpbpfeoackiaaDoorTk2
import Derived.Test.YtmnpbpfeoackiaaDoorInvE
namespace Go.Proofs.YtmnpbpfeoackiaaDoor
open Go.RowKit

set_option maxRecDepth 100000 in
set_option maxHeartbeats 1000000 in
theorem rklong_any (x : LinkL) (w : World) : Calls Tryd.prog 49 #[linkV x] w fun e w' => e = .returned (.bool (longL x)) ∧ Ext w w' := by
  obtain ⟨xa, xb⟩ := x
  have z1 : (ofL xa).size = xa.length := size_ofL _
  have z2 : (ofL xb).size = xb.length := size_ofL _
  have hlg : longL (xa, xb) = if xb = [] then decide (2048 < xa.length) else decide (4144 < xa.length) || decide (4144 < xb.length) := rfl
  rw [hlg]
  clear hlg
  unfold linkV
  by_cases hx : xb = []
  · subst hx
    rw [if_pos rfl]
    have d1 : decide ((2048 : Int) < (xa.length : Int)) = decide (2048 < xa.length) := by rw [decide_eq_decide]; omega
    obtain ⟨q, hq⟩ : ∃ q, decide (2048 < xa.length) = q := ⟨_, rfl⟩
    rw [hq] at d1 ⊢
    clear hq
    go_enter Tryd.func49, Tryd.ntmps49
    go_wp2
    go_ret
    exact ⟨rfl, (Ext.rfl' w).al _⟩
  · have d4 : xb.isEmpty = false := isEmpty_ne hx
    rw [if_neg hx]
    clear hx
    by_cases h1 : 4144 < xa.length
    · have d1 : decide ((4144 : Int) < (xa.length : Int)) = true := by simp; omega
      rw [decide_eq_true h1, Bool.true_or]
      clear h1
      go_enter Tryd.func49, Tryd.ntmps49
      go_wp2
      go_ret
      exact ⟨rfl, (Ext.rfl' w).al _⟩
    · have d1 : decide ((4144 : Int) < (xa.length : Int)) = false := by simp; omega
      rw [decide_eq_false h1, Bool.false_or]
      have d2 : decide ((4144 : Int) < (xb.length : Int)) = decide (4144 < xb.length) := by rw [decide_eq_decide]; omega
      obtain ⟨q, hq⟩ : ∃ q, decide (4144 < xb.length) = q := ⟨_, rfl⟩
      rw [hq] at d2 ⊢
      clear hq h1
      go_enter Tryd.func49, Tryd.ntmps49
      go_wp2
      go_ret
      exact ⟨rfl, (Ext.rfl' w).al _⟩

set_option maxRecDepth 100000 in
set_option maxHeartbeats 4000000 in
theorem rtkput_any (id tag : List UInt8) (vl : Value) (l : List LinkL) (w : World) (hl : RdLinks w w.heap.size vl l) (hs : TokShort id tag l) :
    Calls Tryd.prog 15 #[tokV id vl tag] w fun e w' => e = .returned (.tuple #[.string (ofL (tokPutR ⟨id, l, tag⟩).1), .int .i64 (tokPutR ⟨id, l, tag⟩).2]) ∧ Ext w w' := by
  obtain ⟨A, c, rfl, hlm, hcells⟩ := hl.cells
  obtain ⟨hi, ht, hln, hls⟩ := hs
  have HC := Kp.mk hcells; have HLS := Kp.mk hls
  have A0 := Arr.new w 24 [.string (ofL id), .slice A l.length c, .string (ofL tag)]
  have E0 : Ext w (w.alloc (.cells [.string (ofL id), .slice A l.length c, .string (ofL tag)].toArray 24)) := (Ext.rfl' w).al _
  have z1 : (ofL id).size = id.length := size_ofL _
  have z2 : (ofL tag).size = tag.length := size_ofL _
  have hbad : tokBad ⟨id, l, tag⟩ = (decide (4144 < id.length) || decide (64 < l.length) || l.any longL) := rfl
  have hput : tokPutR ⟨id, l, tag⟩ = if tokBad ⟨id, l, tag⟩ then ([], 3) else if tag.length = 32 then (tokHead id l ++ tag, 0) else ([], 7) := rfl
  obtain ⟨R, hR⟩ : ∃ R, tokPutR ⟨id, l, tag⟩ = R := ⟨_, rfl⟩
  rw [hR] at hput ⊢
  unfold tokV
  clear hcells hl hls hR
  by_cases g1 : 4144 < id.length
  · have hR : R = ([], 3) := by rw [hput, hbad]; simp [g1]
    subst hR
    have d1 : decide ((4144 : Int) < (id.length : Int)) = true := by simp; omega
    clear hput hbad g1
    go_enter Tryd.func15, Tryd.ntmps15
    go_wp2
    go_ret2
    exact ⟨rfl, E0⟩
  · have d1 : decide ((4144 : Int) < (id.length : Int)) = false := by simp; omega
    by_cases g2 : 64 < l.length
    · have hR : R = ([], 3) := by rw [hput, hbad]; simp [g2]
      subst hR
      have d2 : decide ((64 : Int) < (l.length : Int)) = true := by simp; omega
      clear hput hbad g1 g2
      go_enter Tryd.func15, Tryd.ntmps15
      go_wp2
      go_ret2
      exact ⟨rfl, E0⟩
    · have d2 : decide ((64 : Int) < (l.length : Int)) = false := by simp; omega
      have hb : tokBad ⟨id, l, tag⟩ = l.any longL := by rw [hbad]; simp [g1, g2]
      rw [hb] at hput
      have HP := Kp.mk hput
      have cT := Kp.mk (show ∀ (a : List UInt8) (W : World), a.length ≤ 10000 → Calls Tryd.prog 47 #[.string (ofL a)] W fun e w' => e = .returned (.string (ofL (fText a))) ∧ Ext W w' from fun a W h => by
        have q := r8Text_any (ofL a) W (by rw [size_ofL]; omega)
        rw [toL_ofL] at q
        exact q)
      have hu : IntKind.u64.wrap (l.length : Int) = (l.length : Int) := U64.wrap (by show _ < _; omega)
      have cV := Kp.mk (fun W => rvput_all l.length W (by show _ < _; omega))
      have hTK := Kp.mk (show ∀ k, k ≤ l.length → (linksPut (l.take k)).length ≤ 20030 * k from fun k hk => by
        have q := linksPut_len (l.take k) (fun x hx => HLS.out x (List.mem_of_mem_take hx))
        rw [List.length_take, Nat.min_eq_left hk] at q
        exact q)
      have lid := fText_len id
      have lv := length_vput l.length
      obtain ⟨H, hH⟩ : ∃ H, fText id ++ vput l.length = H := ⟨_, rfl⟩
      have lH : H.length ≤ id.length + 20 := by rw [← hH, List.length_append]; omega
      have a1 : ofL (fText id) ++ ofL (vput l.length) = ofL H := by rw [ofL_append, hH]
      have s1 : (ofL (fText id)).size = (fText id).length := size_ofL _
      have s2 : (ofL (vput l.length)).size = (vput l.length).length := size_ofL _
      have HH := Kp.mk hH
      obtain ⟨W0, hW0⟩ : ∃ W0, w.alloc (.cells [.string (ofL id), .slice A l.length c, .string (ofL tag)].toArray 24) = W0 := ⟨_, rfl⟩
      rw [hW0] at A0 E0
      have HW := Kp.mk (show w.alloc (.cells #[.string (ofL id), .slice A l.length c, .string (ofL tag)] 24) = W0 from hW0)
      clear hb hput hbad g1 hH hW0
      go_enter Tryd.func15, Tryd.ntmps15
      go_upto_region 3 with fail
      rw [HW.out]
      clear HW d1 d2
      refine wp_region_localsE (fun i v W => match i with
        | 0 => v = .pointer (some ⟨w.heap.size, 0, none⟩)
        | 1 => v = .string (ofL id)
        | 2 => v = .string (ofL (fText id))
        | 3 => v = .pointer (some ⟨w.heap.size, 1, none⟩)
        | 4 => v = .slice A l.length c
        | 5 => v = .int .i64 l.length
        | 6 => v = .int .u64 l.length
        | 7 => v = .string (ofL (vput l.length))
        | 8 => v = .string (ofL H)
        | 9 => v = .string (ofL H)
        | _ => True) (by kernel_rfl) (by kernel_rfl) (by kernel_rfl) (by kernel_rfl) ?_ ?_ ?_
      · intro i v W1 W2 e1 e2 h
        match i, h with
        | 0, h => exact h
        | 1, h => exact h
        | 2, h => exact h
        | 3, h => exact h
        | 4, h => exact h
        | 5, h => exact h
        | 6, h => exact h
        | 7, h => exact h
        | 8, h => exact h
        | 9, h => exact h
        | (i + 10), h => exact h
      · intro HF
        refine locals_cons (fun u W hW hd => ?_) ?_
        · refine opLeaves_ev HF rfl fun ev zc zg zf zt => ?_
          have t1 : ev (.tmp 1) = .pointer (some ⟨w.heap.size, 0, none⟩) := zt 1
          clear zt
          exact ev_val (v := .pointer (some ⟨w.heap.size, 0, none⟩)) (by go_simp) rfl
        refine locals_cons (fun u W hW hd => ?_) ?_
        · refine opLeaves_ev HF rfl fun ev zc zg zf zt => ?_
          have t17 : ev (.tmp 17) = u 0 := zt 17
          clear zt
          have h0 : u 0 = _ := hd 0 (by kernel_rfl)
          have c0 := (A0.ext hW A0.lt).cell 0
          simp only [List.getElem?_cons_zero] at c0
          exact ev_val (v := .string (ofL id)) (by go_simp) rfl
        refine locals_cons (fun u W hW hd => ?_) ?_
        · refine opLeaves_ev HF rfl fun ev zc zg zf zt => ?_
          have t18 : ev (.tmp 18) = u 1 := zt 18
          clear zt
          have h1 : u 1 = _ := hd 1 (by kernel_rfl)
          exact ev_call (f := 47) (args := #[.string (ofL id)]) (by go_simp) ((cT.out id W hi).mono (by rintro e9 W9 ⟨rfl, h9⟩; exact ⟨_, rfl, h9, rfl⟩))
        refine locals_cons (fun u W hW hd => ?_) ?_
        · refine opLeaves_ev HF rfl fun ev zc zg zf zt => ?_
          have t1 : ev (.tmp 1) = .pointer (some ⟨w.heap.size, 0, none⟩) := zt 1
          clear zt
          exact ev_val (v := .pointer (some ⟨w.heap.size, 1, none⟩)) (by go_simp) rfl
        refine locals_cons (fun u W hW hd => ?_) ?_
        · refine opLeaves_ev HF rfl fun ev zc zg zf zt => ?_
          have t20 : ev (.tmp 20) = u 3 := zt 20
          clear zt
          have h3 : u 3 = _ := hd 3 (by kernel_rfl)
          have c1 := (A0.ext hW A0.lt).cell 1
          simp only [List.getElem?_cons_zero, List.getElem?_cons_succ] at c1
          exact ev_val (v := .slice A l.length c) (by go_simp) rfl
        refine locals_cons (fun u W hW hd => ?_) ?_
        · refine opLeaves_ev HF rfl fun ev zc zg zf zt => ?_
          have t21 : ev (.tmp 21) = u 4 := zt 21
          clear zt
          have h4 : u 4 = _ := hd 4 (by kernel_rfl)
          exact ev_val (v := .int .i64 l.length) (by go_simp) rfl
        refine locals_cons (fun u W hW hd => ?_) ?_
        · refine opLeaves_ev HF rfl fun ev zc zg zf zt => ?_
          have t22 : ev (.tmp 22) = u 5 := zt 22
          clear zt
          have h5 : u 5 = _ := hd 5 (by kernel_rfl)
          exact ev_val (v := .int .u64 l.length) (by go_simp) rfl
        refine locals_cons (fun u W hW hd => ?_) ?_
        · refine opLeaves_ev HF rfl fun ev zc zg zf zt => ?_
          have t23 : ev (.tmp 23) = u 6 := zt 23
          clear zt
          have h6 : u 6 = _ := hd 6 (by kernel_rfl)
          exact ev_call (f := 48) (args := #[.int .u64 l.length]) (by go_simp) ((cV.out W).mono (by rintro e9 W9 ⟨rfl, h9⟩; exact ⟨_, rfl, h9, rfl⟩))
        refine locals_cons (fun u W hW hd => ?_) ?_
        · refine opLeaves_ev HF rfl fun ev zc zg zf zt => ?_
          have t19 : ev (.tmp 19) = u 2 := zt 19
          have t24 : ev (.tmp 24) = u 7 := zt 24
          clear zt
          have h2 : u 2 = _ := hd 2 (by kernel_rfl)
          have h7 : u 7 = _ := hd 7 (by kernel_rfl)
          exact ev_val (v := .string (ofL H)) (by go_simp; omega) rfl
        refine locals_cons (fun u W hW hd => ?_) locals_nil
        · refine opLeaves_ev HF rfl fun ev zc zg zf zt => ?_
          have t25 : ev (.tmp 25) = u 8 := zt 25
          clear zt
          have h8 : u 8 = _ := hd 8 (by kernel_rfl)
          exact ev_val (v := .string (ofL H)) (by go_simp) rfl
      · intro u3 W1 hW1 hV
        have h9 : u3 9 = .string (ofL H) := hV 9 (by decide)
        have A1 := A0.ext hW1 A0.lt
        have F1 := E0.tr hW1
        clear hV a1 s1 s2 A0 E0 hW1 cV
        go_simp
        go_wp2_with fail
        go_loopw [5, 4] (fun i o wr => ∃ k : Nat, k ≤ l.length ∧ i = .int .i64 k ∧ (l.take k).any longL = false ∧ o = .string (ofL (H ++ linksPut (l.take k))) ∧ Ext w wr ∧ Arr wr w.heap.size 24 [.string (ofL id), .slice A l.length c, .string (ofL tag)]) (fun i _ _ => l.length - (intOf i).toNat)
        case atStart => exact ⟨0, by omega, rfl, rfl, by simp [linksPut], F1, A1⟩
        case round =>
          clear F1 A1
          obtain ⟨k, hk, rfl, hall0, rfl, hE, hA⟩ := hrel
          have hall := Kp.mk hall0
          clear hall0
          have c1 := hA.cell 1
          simp only [List.getElem?_cons_zero, List.getElem?_cons_succ] at c1
          by_cases hlt : k < l.length
          · obtain ⟨b, off, rfl, hb, hc⟩ := HC.out (by omega)
            obtain ⟨⟨xa, xb⟩, hxe⟩ : ∃ x, l[k] = x := ⟨_, rfl⟩
            have q1 := ((bcell hE).1 b (off + k * 2) hb).trans (hc k hlt).1
            have q2 := ((bcell hE).1 b (off + k * 2 + 1) hb).trans (hc k hlt).2
            rw [hxe] at q1 q2
            have hxl := HLS.out (xa, xb) (by rw [← hxe]; exact List.getElem_mem hlt)
            dsimp only at hxl
            obtain ⟨L, hL⟩ : ∃ L, linksPut (l.take k) = L := ⟨_, rfl⟩
            have lL : L.length ≤ 20030 * k := by rw [← hL]; exact hTK.out k (by omega)
            have hto := Kp.mk (show linksPut (l.take (k + 1)) = L ++ linkPut (xa, xb) by rw [linksPut_take l k hlt, hxe, hL])
            rw [hL]
            have hgo := Kp.mk (show longL (xa, xb) = false → (l.take (k + 1)).any longL = false from fun h => by rw [any_take l k hlt, hall.out, hxe, h]; rfl)
            have hno := Kp.mk (show longL (xa, xb) = true → R = ([], 3) from fun h => by rw [HP.out, any_long hlt (by rw [hxe]; exact h), if_pos rfl])
            obtain ⟨V, hV, EV, DV⟩ : ∃ V, wr.alloc (.cells #[.string (ofL xa), .string (ofL xb)] 74) = V ∧ Ext wr V ∧ Arr V wr.heap.size 74 [.string (ofL xa), .string (ofL xb)] := ⟨_, rfl, (Ext.rfl' wr).al _, Arr.new wr _ [.string (ofL xa), .string (ofL xb)]⟩
            have HV := Kp.mk hV
            have A6 := hA.ext EV hA.lt
            have F6 := hE.tr EV
            have lO : (H ++ L).length ≤ 3000000 := by rw [List.length_append]; omega
            obtain ⟨O, hO⟩ : ∃ O, H ++ L = O := ⟨_, rfl⟩
            rw [hO] at lO ⊢
            have HO := Kp.mk hO
            have cL := rklong_any (xa, xb) V
            unfold linkV at cL
            obtain ⟨lg, hlg⟩ : ∃ lg, longL (xa, xb) = lg := ⟨_, rfl⟩
            rw [hlg] at cL hgo hno
            have cL := Kp.mk cL
            clear hc hxe hL hA hE EV hV lL hO hlg
            go_upto_region 8 with fail
            rw [HV.out]
            clear HV q1 q2 c1
            have l0 := DV.cell 0; have l1 := DV.cell 1
            simp only [List.getElem?_cons_zero, List.getElem?_cons_succ] at l0 l1
            go_wp2_with fail
            refine cL.out.mono ?_
            rintro e w7 ⟨rfl, E7⟩
            have A7 := A6.ext E7 A6.lt
            have F7 := F6.tr E7
            have D7 := DV.ext E7 DV.lt
            clear A6 F6 DV E7 l0 l1 cL
            cases lg with
            | true =>
              have hR := hno.out rfl
              subst hR
              clear hno hgo HP
              go_wp2
              go_ret2
              exact ⟨rfl, F7⟩
            | false =>
              have hgo2 := Kp.mk (hgo.out rfl)
              clear hno hgo
              have l0 := D7.cell 0; have l1 := D7.cell 1
              simp only [List.getElem?_cons_zero, List.getElem?_cons_succ] at l0 l1
              have ta := fText_len xa; have tb := fText_len xb
              have s1 : (ofL O).size = O.length := size_ofL _
              have s2 : (ofL (fText xa)).size = (fText xa).length := size_ofL _
              by_cases hx : xb = []
              · subst hx
                have s3 : (ofL [byteOf 0]).size = 1 := rfl
                have s4 : (ofL (O ++ [byteOf 0])).size = O.length + 1 := by rw [size_ofL, List.length_append]; rfl
                have a1 : ofL O ++ ofL [byteOf 0] = ofL (O ++ [byteOf 0]) := ofL_append _ _
                have a2 : ofL (O ++ [byteOf 0]) ++ ofL (fText xa) = ofL (O ++ [byteOf 0] ++ fText xa) := ofL_append _ _
                have hfin := Kp.mk (show O ++ [byteOf 0] ++ fText xa = H ++ linksPut (l.take (k + 1)) by rw [hto.out, ← HO.out]; simp [linkPut]; rfl)
                go_upto_region 11 with fail
                clear l0 l1
                refine wp_region_tailsE (fun i v W => match i with
                  | 0 => v = .string (ofL O)
                  | 1 => v = .string (ofL [byteOf 0])
                  | 2 => v = .string (ofL (O ++ [byteOf 0]))
                  | 3 => v = .pointer (some ⟨wr.heap.size, 0, none⟩)
                  | 4 => v = .string (ofL xa)
                  | 5 => v = .string (ofL (fText xa))
                  | 6 => v = .string (ofL (O ++ [byteOf 0] ++ fText xa))
                  | _ => True) 7 (by kernel_rfl) (by kernel_rfl) (by kernel_rfl) (by decide) (by kernel_rfl) (by kernel_rfl) (by kernel_rfl) (by kernel_rfl) ?_ ?_ ?_
                · intro i v W1 W2 e1 e2 h
                  match i, h with
                  | 0, h => exact h
                  | 1, h => exact h
                  | 2, h => exact h
                  | 3, h => exact h
                  | 4, h => exact h
                  | 5, h => exact h
                  | 6, h => exact h
                  | (i + 7), h => exact h
                · intro HF
                  refine localsR_cons (fun u W hW hd => ?_) ?_
                  · refine opLeaves_ev HF rfl fun ev zc zg zf zt => ?_
                    have t4 : ev (.tmp 4) = .string (ofL O) := zt 4
                    clear zt
                    exact ev_val (v := .string (ofL O)) (by go_simp) rfl
                  refine localsR_cons (fun u W hW hd => ?_) ?_
                  · refine opLeaves_ev HF rfl fun ev zc zg zf zt => ?_
                    clear zt
                    exact ev_call (f := 50) (args := #[.int .i64 0]) (by go_simp) ((rbyte_any 0 W).mono (by rintro e9 W9 ⟨rfl, h9⟩; exact ⟨_, rfl, h9, rfl⟩))
                  refine localsR_cons (fun u W hW hd => ?_) ?_
                  · refine opLeaves_ev HF rfl fun ev zc zg zf zt => ?_
                    have t43 : ev (.tmp 43) = u 0 := zt 43
                    have t44 : ev (.tmp 44) = u 1 := zt 44
                    clear zt
                    have h0 : u 0 = _ := hd 0 (by kernel_rfl)
                    have h1 : u 1 = _ := hd 1 (by kernel_rfl)
                    exact ev_val (v := .string (ofL (O ++ [byteOf 0]))) (by go_simp; omega) rfl
                  refine localsR_cons (fun u W hW hd => ?_) ?_
                  · refine opLeaves_ev HF rfl fun ev zc zg zf zt => ?_
                    have t6 : ev (.tmp 6) = .pointer (some ⟨wr.heap.size, 0, none⟩) := zt 6
                    clear zt
                    exact ev_val (v := .pointer (some ⟨wr.heap.size, 0, none⟩)) (by go_simp) rfl
                  refine localsR_cons (fun u W hW hd => ?_) ?_
                  · refine opLeaves_ev HF rfl fun ev zc zg zf zt => ?_
                    have t46 : ev (.tmp 46) = u 3 := zt 46
                    clear zt
                    have h3 : u 3 = _ := hd 3 (by kernel_rfl)
                    have l0 := (D7.ext hW D7.lt).cell 0
                    simp only [List.getElem?_cons_zero] at l0
                    exact ev_val (v := .string (ofL xa)) (by go_simp) rfl
                  refine localsR_cons (fun u W hW hd => ?_) ?_
                  · refine opLeaves_ev HF rfl fun ev zc zg zf zt => ?_
                    have t47 : ev (.tmp 47) = u 4 := zt 47
                    clear zt
                    have h4 : u 4 = _ := hd 4 (by kernel_rfl)
                    exact ev_call (f := 47) (args := #[.string (ofL xa)]) (by go_simp) ((cT.out xa W hxl.1).mono (by rintro e9 W9 ⟨rfl, h9⟩; exact ⟨_, rfl, h9, rfl⟩))
                  refine localsR_cons (fun u W hW hd => ?_) localsR_nil
                  · refine opLeaves_ev HF rfl fun ev zc zg zf zt => ?_
                    have t45 : ev (.tmp 45) = u 2 := zt 45
                    have t48 : ev (.tmp 48) = u 5 := zt 48
                    clear zt
                    have h2 : u 2 = _ := hd 2 (by kernel_rfl)
                    have h5 : u 5 = _ := hd 5 (by kernel_rfl)
                    exact ev_val (v := .string (ofL (O ++ [byteOf 0] ++ fText xa))) (by go_simp; omega) rfl
                · intro u W8 hW hV
                  have h7 : u 6 = .string (ofL (O ++ [byteOf 0] ++ fText xa)) := hV 6 (by decide)
                  have A8 := A7.ext hW A7.lt
                  have F8 := F7.tr hW
                  rw [hfin.out] at h7
                  clear hV a1 a2 s1 s2 s3 s4 A7 F7 D7 hW
                  go_simp
                  go_wp2
                  go_roundw
                  case rel => exact ⟨k + 1, by omega, by go_num, hgo2.out, rfl, F8, A8⟩
                  case measure => simp [intOf]; omega
              · have d4 : xb.isEmpty = false := isEmpty_ne hx
                have hfin := Kp.mk (show O ++ [byteOf 1] ++ fText xa ++ fText xb = H ++ linksPut (l.take (k + 1)) by rw [hto.out, ← HO.out]; simp [linkPut, hx]; rfl)
                clear hx
                obtain ⟨X1, hX1⟩ : ∃ X, O ++ [byteOf 1] = X := ⟨_, rfl⟩
                rw [hX1] at hfin
                obtain ⟨X2, hX2⟩ : ∃ X, X1 ++ fText xa = X := ⟨_, rfl⟩
                rw [hX2] at hfin
                obtain ⟨X3, hX3⟩ : ∃ X, X2 ++ fText xb = X := ⟨_, rfl⟩
                rw [hX3] at hfin
                have s3 : (ofL [byteOf 1]).size = 1 := rfl
                have l4 : X1.length = O.length + 1 := by rw [← hX1, List.length_append]; rfl
                have l5 : X2.length = X1.length + (fText xa).length := by rw [← hX2, List.length_append]
                have s4 : (ofL X1).size = X1.length := size_ofL _
                have s5 : (ofL X2).size = X2.length := size_ofL _
                have s6 : (ofL (fText xb)).size = (fText xb).length := size_ofL _
                have a1 : ofL O ++ ofL [byteOf 1] = ofL X1 := by rw [ofL_append, hX1]
                have a2 : ofL X1 ++ ofL (fText xa) = ofL X2 := by rw [ofL_append, hX2]
                have a3 : ofL X2 ++ ofL (fText xb) = ofL X3 := by rw [ofL_append, hX3]
                clear hX1 hX2 hX3
                go_upto_region 12 with fail
                clear l0 l1
                refine wp_region_tailsE (fun i v W => match i with
                  | 0 => v = .string (ofL O)
                  | 1 => v = .string (ofL [byteOf 1])
                  | 2 => v = .string (ofL X1)
                  | 3 => v = .pointer (some ⟨wr.heap.size, 0, none⟩)
                  | 4 => v = .string (ofL xa)
                  | 5 => v = .string (ofL (fText xa))
                  | 6 => v = .string (ofL X2)
                  | 7 => v = .pointer (some ⟨wr.heap.size, 1, none⟩)
                  | 8 => v = .string (ofL xb)
                  | 9 => v = .string (ofL (fText xb))
                  | 10 => v = .string (ofL X3)
                  | _ => True) 11 (by kernel_rfl) (by kernel_rfl) (by kernel_rfl) (by decide) (by kernel_rfl) (by kernel_rfl) (by kernel_rfl) (by kernel_rfl) ?_ ?_ ?_
                · intro i v W1 W2 e1 e2 h
                  match i, h with
                  | 0, h => exact h
                  | 1, h => exact h
                  | 2, h => exact h
                  | 3, h => exact h
                  | 4, h => exact h
                  | 5, h => exact h
                  | 6, h => exact h
                  | 7, h => exact h
                  | 8, h => exact h
                  | 9, h => exact h
                  | 10, h => exact h
                  | (i + 11), h => exact h
                · intro HF
                  refine localsR_cons (fun u W hW hd => ?_) ?_
                  · refine opLeaves_ev HF rfl fun ev zc zg zf zt => ?_
                    have t4 : ev (.tmp 4) = .string (ofL O) := zt 4
                    clear zt
                    exact ev_val (v := .string (ofL O)) (by go_simp) rfl
                  refine localsR_cons (fun u W hW hd => ?_) ?_
                  · refine opLeaves_ev HF rfl fun ev zc zg zf zt => ?_
                    clear zt
                    exact ev_call (f := 50) (args := #[.int .i64 1]) (by go_simp) ((rbyte_any 1 W).mono (by rintro e9 W9 ⟨rfl, h9⟩; exact ⟨_, rfl, h9, rfl⟩))
                  refine localsR_cons (fun u W hW hd => ?_) ?_
                  · refine opLeaves_ev HF rfl fun ev zc zg zf zt => ?_
                    have t50 : ev (.tmp 50) = u 0 := zt 50
                    have t51 : ev (.tmp 51) = u 1 := zt 51
                    clear zt
                    have h0 : u 0 = _ := hd 0 (by kernel_rfl)
                    have h1 : u 1 = _ := hd 1 (by kernel_rfl)
                    exact ev_val (v := .string (ofL X1)) (by go_simp; omega) rfl
                  refine localsR_cons (fun u W hW hd => ?_) ?_
                  · refine opLeaves_ev HF rfl fun ev zc zg zf zt => ?_
                    have t6 : ev (.tmp 6) = .pointer (some ⟨wr.heap.size, 0, none⟩) := zt 6
                    clear zt
                    exact ev_val (v := .pointer (some ⟨wr.heap.size, 0, none⟩)) (by go_simp) rfl
                  refine localsR_cons (fun u W hW hd => ?_) ?_
                  · refine opLeaves_ev HF rfl fun ev zc zg zf zt => ?_
                    have t53 : ev (.tmp 53) = u 3 := zt 53
                    clear zt
                    have h3 : u 3 = _ := hd 3 (by kernel_rfl)
                    have l0 := (D7.ext hW D7.lt).cell 0
                    simp only [List.getElem?_cons_zero] at l0
                    exact ev_val (v := .string (ofL xa)) (by go_simp) rfl
                  refine localsR_cons (fun u W hW hd => ?_) ?_
                  · refine opLeaves_ev HF rfl fun ev zc zg zf zt => ?_
                    have t54 : ev (.tmp 54) = u 4 := zt 54
                    clear zt
                    have h4 : u 4 = _ := hd 4 (by kernel_rfl)
                    exact ev_call (f := 47) (args := #[.string (ofL xa)]) (by go_simp) ((cT.out xa W hxl.1).mono (by rintro e9 W9 ⟨rfl, h9⟩; exact ⟨_, rfl, h9, rfl⟩))
                  refine localsR_cons (fun u W hW hd => ?_) ?_
                  · refine opLeaves_ev HF rfl fun ev zc zg zf zt => ?_
                    have t52 : ev (.tmp 52) = u 2 := zt 52
                    have t55 : ev (.tmp 55) = u 5 := zt 55
                    clear zt
                    have h2 : u 2 = _ := hd 2 (by kernel_rfl)
                    have h5 : u 5 = _ := hd 5 (by kernel_rfl)
                    exact ev_val (v := .string (ofL X2)) (by go_simp; omega) rfl
                  refine localsR_cons (fun u W hW hd => ?_) ?_
                  · refine opLeaves_ev HF rfl fun ev zc zg zf zt => ?_
                    have t6 : ev (.tmp 6) = .pointer (some ⟨wr.heap.size, 0, none⟩) := zt 6
                    clear zt
                    exact ev_val (v := .pointer (some ⟨wr.heap.size, 1, none⟩)) (by go_simp) rfl
                  refine localsR_cons (fun u W hW hd => ?_) ?_
                  · refine opLeaves_ev HF rfl fun ev zc zg zf zt => ?_
                    have t57 : ev (.tmp 57) = u 7 := zt 57
                    clear zt
                    have h7 : u 7 = _ := hd 7 (by kernel_rfl)
                    have l1 := (D7.ext hW D7.lt).cell 1
                    simp only [List.getElem?_cons_zero, List.getElem?_cons_succ] at l1
                    exact ev_val (v := .string (ofL xb)) (by go_simp) rfl
                  refine localsR_cons (fun u W hW hd => ?_) ?_
                  · refine opLeaves_ev HF rfl fun ev zc zg zf zt => ?_
                    have t58 : ev (.tmp 58) = u 8 := zt 58
                    clear zt
                    have h8 : u 8 = _ := hd 8 (by kernel_rfl)
                    exact ev_call (f := 47) (args := #[.string (ofL xb)]) (by go_simp) ((cT.out xb W hxl.2).mono (by rintro e9 W9 ⟨rfl, h9⟩; exact ⟨_, rfl, h9, rfl⟩))
                  refine localsR_cons (fun u W hW hd => ?_) localsR_nil
                  · refine opLeaves_ev HF rfl fun ev zc zg zf zt => ?_
                    have t56 : ev (.tmp 56) = u 6 := zt 56
                    have t59 : ev (.tmp 59) = u 9 := zt 59
                    clear zt
                    have h6 : u 6 = _ := hd 6 (by kernel_rfl)
                    have h9 : u 9 = _ := hd 9 (by kernel_rfl)
                    exact ev_val (v := .string (ofL X3)) (by go_simp; omega) rfl
                · intro u W8 hW hV
                  have h11 : u 10 = .string (ofL X3) := hV 10 (by decide)
                  have A8 := A7.ext hW A7.lt
                  have F8 := F7.tr hW
                  rw [hfin.out] at h11
                  clear hV a1 a2 a3 s1 s2 s3 s4 s5 s6 l4 l5 A7 F7 D7 hW
                  go_simp
                  go_wp2
                  go_roundw
                  case rel => exact ⟨k + 1, by omega, by go_num, hgo2.out, rfl, F8, A8⟩
                  case measure => simp [intOf]; omega
          · have hq := hall.out
            rw [List.take_of_length_le (by omega)] at hq ⊢
            have hTl := hTK.out l.length (Nat.le_refl _)
            rw [List.take_length] at hTl
            have hp := HP.out
            rw [hq, if_neg (by decide)] at hp
            obtain ⟨O, hO⟩ : ∃ O, H ++ linksPut l = O := ⟨_, rfl⟩
            have lO : O.length ≤ 3000000 := by rw [← hO, List.length_append]; omega
            have s1 : (ofL O).size = O.length := size_ofL _
            have a1 : ofL O ++ ofL tag = ofL (tokHead id l ++ tag) := by rw [ofL_append, ← hO, ← HH.out]; rfl
            rw [hO]
            have c2 := hA.cell 2
            simp only [List.getElem?_cons_zero, List.getElem?_cons_succ] at c2
            clear hq hO hTl HP HH
            by_cases h2 : tag.length = 32
            · rw [if_pos h2] at hp
              subst hp
              have d1 : ((tag.length : Int) != 32) = false := by simp; omega
              have h3 : tag.length ≤ 32 := by omega
              clear h2
              go_wp2
              go_ret2
              exact ⟨by rw [← a1]; rfl, hE⟩
            · rw [if_neg h2] at hp
              subst hp
              have d1 : ((tag.length : Int) != 32) = true := by simp; omega
              clear h2
              go_wp2
              go_ret2
              exact ⟨rfl, hE⟩
end Go.Proofs.YtmnpbpfeoackiaaDoor
