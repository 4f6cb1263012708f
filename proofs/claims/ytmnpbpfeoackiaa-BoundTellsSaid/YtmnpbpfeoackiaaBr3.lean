/-
  The reference's answer for changes: their texts, a batch. Condition: each has the form; at most 145 of them.
-/
import Derived.Test.YtmnpbpfeoackiaaBr2
namespace Go.Proofs.Ytmnpbpfeoackiaa
open Go.RowKit

theorem r8TextL_any (s : List UInt8) (w : World) (hs : s.length ≤ 1000) : Calls Try.prog 44 #[.string (ofL s)] w fun e w' => e = .returned (.string (ofL (fText s))) ∧ Ext w w' := by
  have h := r8Text_any (ofL s) w (by rw [size_ofL]; omega)
  rw [toL_ofL] at h
  exact h
theorem byteOf_kind (k : Nat) (h : k ≤ 4) : byteOf (k : Int) = k.toUInt8 := by
  have : k = 0 ∨ k = 1 ∨ k = 2 ∨ k = 3 ∨ k = 4 := by omega
  rcases this with rfl | rfl | rfl | rfl | rfl <;> rfl
set_option maxRecDepth 100000 in
set_option maxHeartbeats 1000000 in
theorem rrecput_any (e : EvL) (h : FormE e) (w : World) : Calls Try.prog 43 #[evlV e] w fun e' w' => e' = .returned (.tuple #[.string (ofL (recE e)), .int .i64 0]) ∧ Ext w w' := by
  obtain ⟨⟨hp0, hp1⟩, ⟨hn0, hn1⟩, hk4, ht32, hx32⟩ := formE_nums h
  have cF0 := fun W => rform_any e h W
  have hrl := recE_len h
  obtain ⟨R, hR⟩ : ∃ R, recE e = R := ⟨_, rfl⟩
  rw [hR] at hrl ⊢
  have HR0 := hR
  obtain ⟨k, ten, num, ep, text⟩ := e
  unfold evlV at cF0 ⊢
  dsimp only at hp0 hp1 hn0 hn1 hk4 ht32 hx32 cF0 ⊢
  obtain ⟨p, rfl⟩ : ∃ p : Nat, ep = p := ⟨ep.toNat, by omega⟩
  obtain ⟨q, rfl⟩ : ∃ q : Nat, num = q := ⟨num.toNat, by omega⟩
  unfold recE at HR0
  dsimp only at HR0
  rw [Int.toNat_natCast, Int.toNat_natCast] at HR0
  obtain ⟨kb, hkb⟩ : ∃ b, k.toUInt8 = b := ⟨_, rfl⟩
  have hbk := byteOf_kind k hk4
  rw [hkb] at hbk HR0
  have hTl := fText_le ten; have hXl := fText_le text; have hPl := length_vput p; have hQl := length_vput q
  obtain ⟨T, hT⟩ : ∃ T, fText ten = T := ⟨_, rfl⟩
  obtain ⟨X, hX⟩ : ∃ T, fText text = T := ⟨_, rfl⟩
  obtain ⟨P, hP⟩ : ∃ T, vput p = T := ⟨_, rfl⟩
  obtain ⟨Q, hQ⟩ : ∃ T, vput q = T := ⟨_, rfl⟩
  rw [hT, hX, hP, hQ] at HR0
  rw [hT] at hTl
  rw [hX] at hXl
  rw [hP] at hPl
  rw [hQ] at hQl
  have cK := Kp.mk (show ∀ W : World, Calls Try.prog 59 #[.int .i64 k] W fun e w' => e = .returned (.string (ofL [kb])) ∧ Ext W w' from fun W => by rw [← hbk]; exact rbyte_any _ W)
  have cT := Kp.mk (show ∀ W : World, Calls Try.prog 44 #[.string (ofL ten)] W fun e w' => e = .returned (.string (ofL T)) ∧ Ext W w' from fun W => by rw [← hT]; exact r8TextL_any ten W (by omega))
  have cX := Kp.mk (show ∀ W : World, Calls Try.prog 44 #[.string (ofL text)] W fun e w' => e = .returned (.string (ofL X)) ∧ Ext W w' from fun W => by rw [← hX]; exact r8TextL_any text W (by omega))
  have cP := Kp.mk (show ∀ W : World, Calls Try.prog 42 #[.int .u64 p] W fun e w' => e = .returned (.string (ofL P)) ∧ Ext W w' from fun W => by rw [← hP]; exact rvput_all p W (by show _ < _; omega))
  have cQ := Kp.mk (show ∀ W : World, Calls Try.prog 42 #[.int .u64 q] W fun e w' => e = .returned (.string (ofL Q)) ∧ Ext W w' from fun W => by rw [← hQ]; exact rvput_all q W (by show _ < _; omega))
  obtain ⟨S1, hS1⟩ : ∃ s, [kb] ++ T = s := ⟨_, rfl⟩
  obtain ⟨S2, hS2⟩ : ∃ s, S1 ++ P = s := ⟨_, rfl⟩
  obtain ⟨S3, hS3⟩ : ∃ s, S2 ++ Q = s := ⟨_, rfl⟩
  have hfl : S3 ++ X = R := by rw [← HR0, ← hS3, ← hS2, ← hS1]; simp
  have l1 : S1.length = 1 + T.length := by rw [← hS1, List.length_append]; rfl
  have l2 : S2.length = S1.length + P.length := by rw [← hS2, List.length_append]
  have l3 : S3.length = S2.length + Q.length := by rw [← hS3, List.length_append]
  have E1' := Kp.mk (show ofL [kb] ++ ofL T = ofL S1 by rw [← hS1, ofL_append])
  have E2' := Kp.mk (show ofL S1 ++ ofL P = ofL S2 by rw [← hS2, ofL_append])
  have E3' := Kp.mk (show ofL S2 ++ ofL Q = ofL S3 by rw [← hS3, ofL_append])
  have E4' := Kp.mk (show ofL S3 ++ ofL X = ofL R by rw [← hfl, ofL_append])
  have B1' := Kp.mk (show 1 + T.length ≤ 9223372036854775807 by omega)
  have B2' := Kp.mk (show S1.length + P.length ≤ 9223372036854775807 by omega)
  have B3' := Kp.mk (show S2.length + Q.length ≤ 9223372036854775807 by omega)
  have B4' := Kp.mk (show S3.length + X.length ≤ 9223372036854775807 by omega)
  have hwp : IntKind.u64.wrap (p : Int) = (p : Int) := U64.wrap (by show _ < _; omega)
  have hwq : IntKind.u64.wrap (q : Int) = (q : Int) := U64.wrap (by show _ < _; omega)
  have HWP := Kp.mk hwp; have HWQ := Kp.mk hwq
  obtain ⟨W, hW, E0, A0⟩ : ∃ W, w.alloc (.cells #[.int .i64 k, .string (ofL ten), .int .i64 q, .int .i64 p, .string (ofL text)] 71) = W ∧ Ext w W ∧ Arr W w.heap.size 71 [.int .i64 k, .string (ofL ten), .int .i64 q, .int .i64 p, .string (ofL text)] := ⟨_, rfl, (Ext.rfl' w).al _, Arr.new w _ [.int .i64 k, .string (ofL ten), .int .i64 q, .int .i64 p, .string (ofL text)]⟩
  have HW := Kp.mk hW
  have cF := Kp.mk (cF0 W)
  have a0 := A0.cell 0; have a1 := A0.cell 1; have a2 := A0.cell 2; have a3 := A0.cell 3; have a4 := A0.cell 4
  simp only [List.getElem?_cons_zero, List.getElem?_cons_succ] at a0 a1 a2 a3 a4
  clear hW cF0 h hfl hrl HR0 hR hT hX hP hQ hkb hwp hwq hS1 hS2 hS3 l1 l2 l3 hTl hXl hPl hQl hbk
  go_enter Try.func43, Try.ntmps43
  go_upto_region 1 with fail
  rw [HW.out]
  clear HW
  go_wp2_with fail
  refine cF.out.mono ?_
  rintro e w1 ⟨rfl, E1⟩
  have A1 := A0.ext E1 A0.lt
  have F1 := E0.tr E1
  clear A0 E0 E1 a0 a1 a2 a3 a4 cF
  go_upto_region 3 with fail
  refine wp_region_localsE (fun i v W => match i with
    | 0 => v = .pointer (some ⟨w.heap.size, 0, none⟩)
    | 1 => v = .int .i64 k
    | 2 => v = .string (ofL [kb])
    | 3 => v = .pointer (some ⟨w.heap.size, 1, none⟩)
    | 4 => v = .string (ofL ten)
    | 5 => v = .string (ofL T)
    | 6 => v = .string (ofL S1)
    | 7 => v = .pointer (some ⟨w.heap.size, 3, none⟩)
    | 8 => v = .int .i64 p
    | 9 => v = .int .u64 p
    | 10 => v = .string (ofL P)
    | 11 => v = .string (ofL S2)
    | 12 => v = .pointer (some ⟨w.heap.size, 2, none⟩)
    | 13 => v = .int .i64 q
    | 14 => v = .int .u64 q
    | 15 => v = .string (ofL Q)
    | 16 => v = .string (ofL S3)
    | 17 => v = .pointer (some ⟨w.heap.size, 4, none⟩)
    | 18 => v = .string (ofL text)
    | 19 => v = .string (ofL X)
    | 20 => v = .string (ofL R)
    | 21 => v = .string (ofL R)
    | 22 => v = .int .i64 0
    | _ => True) (by kernel_rfl) (by kernel_rfl) (by kernel_rfl) (by kernel_rfl) ?_ ?_ ?_
  · intro i v W1 W2 e1 e2 h
    match i, h with
    | 0, h => exact h
    | 1, h => exact h
    | 2, h => exact h
    | 3, h => exact h
    | 4, h => exact h
    | 5, h => exact h
    | 6, h => exact h
    | 7, h => exact h
    | 8, h => exact h
    | 9, h => exact h
    | 10, h => exact h
    | 11, h => exact h
    | 12, h => exact h
    | 13, h => exact h
    | 14, h => exact h
    | 15, h => exact h
    | 16, h => exact h
    | 17, h => exact h
    | 18, h => exact h
    | 19, h => exact h
    | 20, h => exact h
    | 21, h => exact h
    | 22, h => exact h
    | (i + 23), h => exact h
  · intro HF
    refine locals_cons (fun u W hW hd => ?_) ?_
    · refine opLeaves_ev HF rfl fun ev zc zg zf zt => ?_
      have t1 : ev (.tmp 1) = .pointer (some ⟨w.heap.size, 0, none⟩) := zt 1
      clear zt
      exact ev_val (v := .pointer (some ⟨w.heap.size, 0, none⟩)) (by go_simp) rfl
    refine locals_cons (fun u W hW hd => ?_) ?_
    · refine opLeaves_ev HF rfl fun ev zc zg zf zt => ?_
      have t7 : ev (.tmp 7) = u 0 := zt 7
      clear zt
      have h0 : u 0 = _ := hd 0 (by kernel_rfl)
      have q0 := (A1.ext hW A1.lt).cell 0
      simp only [List.getElem?_cons_zero] at q0
      exact ev_val (v := .int .i64 k) (by go_simp) rfl
    refine locals_cons (fun u W hW hd => ?_) ?_
    · refine opLeaves_ev HF rfl fun ev zc zg zf zt => ?_
      have t8 : ev (.tmp 8) = u 1 := zt 8
      clear zt
      have h1 : u 1 = _ := hd 1 (by kernel_rfl)
      exact ev_call (f := 59) (args := #[.int .i64 k]) (by go_simp) ((cK.out W).mono (by rintro e9 W9 ⟨rfl, h9⟩; exact ⟨_, rfl, h9, rfl⟩))
    refine locals_cons (fun u W hW hd => ?_) ?_
    · refine opLeaves_ev HF rfl fun ev zc zg zf zt => ?_
      have t1 : ev (.tmp 1) = .pointer (some ⟨w.heap.size, 0, none⟩) := zt 1
      clear zt
      exact ev_val (v := .pointer (some ⟨w.heap.size, 1, none⟩)) (by go_simp) rfl
    refine locals_cons (fun u W hW hd => ?_) ?_
    · refine opLeaves_ev HF rfl fun ev zc zg zf zt => ?_
      have t10 : ev (.tmp 10) = u 3 := zt 10
      clear zt
      have h3 : u 3 = _ := hd 3 (by kernel_rfl)
      have q0 := (A1.ext hW A1.lt).cell 1
      simp only [List.getElem?_cons_zero, List.getElem?_cons_succ] at q0
      exact ev_val (v := .string (ofL ten)) (by go_simp) rfl
    refine locals_cons (fun u W hW hd => ?_) ?_
    · refine opLeaves_ev HF rfl fun ev zc zg zf zt => ?_
      have t11 : ev (.tmp 11) = u 4 := zt 11
      clear zt
      have h4 : u 4 = _ := hd 4 (by kernel_rfl)
      exact ev_call (f := 44) (args := #[.string (ofL ten)]) (by go_simp) ((cT.out W).mono (by rintro e9 W9 ⟨rfl, h9⟩; exact ⟨_, rfl, h9, rfl⟩))
    refine locals_cons (fun u W hW hd => ?_) ?_
    · refine opLeaves_ev HF rfl fun ev zc zg zf zt => ?_
      have t9 : ev (.tmp 9) = u 2 := zt 9
      have t12 : ev (.tmp 12) = u 5 := zt 12
      clear zt
      have h2 : u 2 = _ := hd 2 (by kernel_rfl)
      have h5 : u 5 = _ := hd 5 (by kernel_rfl)
      have e1 := E1'.out; have b1 := B1'.out
      exact ev_val (v := .string (ofL S1)) (by go_simp) rfl
    refine locals_cons (fun u W hW hd => ?_) ?_
    · refine opLeaves_ev HF rfl fun ev zc zg zf zt => ?_
      have t1 : ev (.tmp 1) = .pointer (some ⟨w.heap.size, 0, none⟩) := zt 1
      clear zt
      exact ev_val (v := .pointer (some ⟨w.heap.size, 3, none⟩)) (by go_simp) rfl
    refine locals_cons (fun u W hW hd => ?_) ?_
    · refine opLeaves_ev HF rfl fun ev zc zg zf zt => ?_
      have t14 : ev (.tmp 14) = u 7 := zt 14
      clear zt
      have h7 : u 7 = _ := hd 7 (by kernel_rfl)
      have q0 := (A1.ext hW A1.lt).cell 3
      simp only [List.getElem?_cons_zero, List.getElem?_cons_succ] at q0
      exact ev_val (v := .int .i64 p) (by go_simp) rfl
    refine locals_cons (fun u W hW hd => ?_) ?_
    · refine opLeaves_ev HF rfl fun ev zc zg zf zt => ?_
      have t15 : ev (.tmp 15) = u 8 := zt 15
      clear zt
      have h8 : u 8 = _ := hd 8 (by kernel_rfl)
      have w9 := HWP.out
      exact ev_val (v := .int .u64 p) (by go_simp) rfl
    refine locals_cons (fun u W hW hd => ?_) ?_
    · refine opLeaves_ev HF rfl fun ev zc zg zf zt => ?_
      have t16 : ev (.tmp 16) = u 9 := zt 16
      clear zt
      have h9 : u 9 = _ := hd 9 (by kernel_rfl)
      exact ev_call (f := 42) (args := #[.int .u64 p]) (by go_simp) ((cP.out W).mono (by rintro e9 W9 ⟨rfl, h9⟩; exact ⟨_, rfl, h9, rfl⟩))
    refine locals_cons (fun u W hW hd => ?_) ?_
    · refine opLeaves_ev HF rfl fun ev zc zg zf zt => ?_
      have t13 : ev (.tmp 13) = u 6 := zt 13
      have t17 : ev (.tmp 17) = u 10 := zt 17
      clear zt
      have h6 : u 6 = _ := hd 6 (by kernel_rfl)
      have h10 : u 10 = _ := hd 10 (by kernel_rfl)
      have e1 := E2'.out; have b1 := B2'.out
      exact ev_val (v := .string (ofL S2)) (by go_simp) rfl
    refine locals_cons (fun u W hW hd => ?_) ?_
    · refine opLeaves_ev HF rfl fun ev zc zg zf zt => ?_
      have t1 : ev (.tmp 1) = .pointer (some ⟨w.heap.size, 0, none⟩) := zt 1
      clear zt
      exact ev_val (v := .pointer (some ⟨w.heap.size, 2, none⟩)) (by go_simp) rfl
    refine locals_cons (fun u W hW hd => ?_) ?_
    · refine opLeaves_ev HF rfl fun ev zc zg zf zt => ?_
      have t19 : ev (.tmp 19) = u 12 := zt 19
      clear zt
      have h12 : u 12 = _ := hd 12 (by kernel_rfl)
      have q0 := (A1.ext hW A1.lt).cell 2
      simp only [List.getElem?_cons_zero, List.getElem?_cons_succ] at q0
      exact ev_val (v := .int .i64 q) (by go_simp) rfl
    refine locals_cons (fun u W hW hd => ?_) ?_
    · refine opLeaves_ev HF rfl fun ev zc zg zf zt => ?_
      have t20 : ev (.tmp 20) = u 13 := zt 20
      clear zt
      have h13 : u 13 = _ := hd 13 (by kernel_rfl)
      have w9 := HWQ.out
      exact ev_val (v := .int .u64 q) (by go_simp) rfl
    refine locals_cons (fun u W hW hd => ?_) ?_
    · refine opLeaves_ev HF rfl fun ev zc zg zf zt => ?_
      have t21 : ev (.tmp 21) = u 14 := zt 21
      clear zt
      have h14 : u 14 = _ := hd 14 (by kernel_rfl)
      exact ev_call (f := 42) (args := #[.int .u64 q]) (by go_simp) ((cQ.out W).mono (by rintro e9 W9 ⟨rfl, h9⟩; exact ⟨_, rfl, h9, rfl⟩))
    refine locals_cons (fun u W hW hd => ?_) ?_
    · refine opLeaves_ev HF rfl fun ev zc zg zf zt => ?_
      have t18 : ev (.tmp 18) = u 11 := zt 18
      have t22 : ev (.tmp 22) = u 15 := zt 22
      clear zt
      have h11 : u 11 = _ := hd 11 (by kernel_rfl)
      have h15 : u 15 = _ := hd 15 (by kernel_rfl)
      have e1 := E3'.out; have b1 := B3'.out
      exact ev_val (v := .string (ofL S3)) (by go_simp) rfl
    refine locals_cons (fun u W hW hd => ?_) ?_
    · refine opLeaves_ev HF rfl fun ev zc zg zf zt => ?_
      have t1 : ev (.tmp 1) = .pointer (some ⟨w.heap.size, 0, none⟩) := zt 1
      clear zt
      exact ev_val (v := .pointer (some ⟨w.heap.size, 4, none⟩)) (by go_simp) rfl
    refine locals_cons (fun u W hW hd => ?_) ?_
    · refine opLeaves_ev HF rfl fun ev zc zg zf zt => ?_
      have t24 : ev (.tmp 24) = u 17 := zt 24
      clear zt
      have h17 : u 17 = _ := hd 17 (by kernel_rfl)
      have q0 := (A1.ext hW A1.lt).cell 4
      simp only [List.getElem?_cons_zero, List.getElem?_cons_succ] at q0
      exact ev_val (v := .string (ofL text)) (by go_simp) rfl
    refine locals_cons (fun u W hW hd => ?_) ?_
    · refine opLeaves_ev HF rfl fun ev zc zg zf zt => ?_
      have t25 : ev (.tmp 25) = u 18 := zt 25
      clear zt
      have h18 : u 18 = _ := hd 18 (by kernel_rfl)
      exact ev_call (f := 44) (args := #[.string (ofL text)]) (by go_simp) ((cX.out W).mono (by rintro e9 W9 ⟨rfl, h9⟩; exact ⟨_, rfl, h9, rfl⟩))
    refine locals_cons (fun u W hW hd => ?_) ?_
    · refine opLeaves_ev HF rfl fun ev zc zg zf zt => ?_
      have t23 : ev (.tmp 23) = u 16 := zt 23
      have t26 : ev (.tmp 26) = u 19 := zt 26
      clear zt
      have h16 : u 16 = _ := hd 16 (by kernel_rfl)
      have h19 : u 19 = _ := hd 19 (by kernel_rfl)
      have e1 := E4'.out; have b1 := B4'.out
      exact ev_val (v := .string (ofL R)) (by go_simp) rfl
    refine locals_cons (fun u W hW hd => ?_) ?_
    · refine opLeaves_ev HF rfl fun ev zc zg zf zt => ?_
      have t27 : ev (.tmp 27) = u 20 := zt 27
      clear zt
      have h20 : u 20 = _ := hd 20 (by kernel_rfl)
      exact ev_val (v := .string (ofL R)) (by go_simp) rfl
    refine locals_cons (fun u W hW hd => ?_) locals_nil
    · refine opLeaves_ev HF rfl fun ev zc zg zf zt => ?_
      clear zt
      exact ev_val (v := .int .i64 0) (by go_simp) rfl
  · intro u W4 hW hV
    have h21 : u 21 = .string (ofL R) := hV 21 (by decide)
    have h22 : u 22 = .int .i64 0 := hV 22 (by decide)
    have F4 := F1.tr hW
    clear hV hW A1 F1
    go_simp
    go_wp2
    go_ret2
    exact ⟨rfl, F4⟩
set_option maxRecDepth 100000 in
set_option maxHeartbeats 1000000 in
theorem rbatch_any {w : World} {v : Value} {l : List EvL} (H : Rd w w.heap.size 5 v l.length (evsC l)) (hF : ∀ e ∈ l, FormE e) (hl : l.length ≤ 145) :
    Calls Try.prog 27 #[v] w fun e w' => e = .returned (.tuple #[.string (ofL (batE l)), .int .i64 0]) ∧ Ext w w' := by
  obtain ⟨A, c, rfl, hcl⟩ := evs_cells H
  replace hcl := Kp.mk hcl
  have cP := Kp.mk (fun (e : EvL) (he : e ∈ l) W => rrecput_any e (hF e he) W)
  have cT := Kp.mk (fun (e : EvL) (he : e ∈ l) W => r8TextL_any (recE e) W (by have := recE_len (hF e he); omega))
  have cN := Kp.mk (fun W => rvput_all l.length W (by show _ < _; omega))
  have HLEN := Kp.mk (fun (e : EvL) (he : e ∈ l) => (show (fText (recE e)).length ≤ 115 by have := recE_len (hF e he); have := fText_le (recE e); omega))
  have HQ0 := Kp.mk (show (batQ l).take 1 = [vput l.length] from rfl)
  obtain ⟨n, hn⟩ : ∃ n, l.length = n := ⟨_, rfl⟩
  rw [hn] at hcl hl HQ0
  simp only [hn] at cN
  rw [hn]
  have HN := Kp.mk hn
  have hPl := length_vput n
  obtain ⟨P, hP⟩ : ∃ P, vput n = P := ⟨_, rfl⟩
  rw [hP] at HQ0 hPl
  simp only [hP] at cN
  have hwn : IntKind.u64.wrap (n : Int) = (n : Int) := U64.wrap (by show _ < _; omega)
  have q1 : decide ((256 : Int) < (n : Int)) = false := by simp; omega
  obtain ⟨R, hR⟩ : ∃ R, batE l = R := ⟨_, rfl⟩
  rw [hR]
  have HR := Kp.mk hR
  have HPL := Kp.mk hPl
  clear hn hP H hF hR hPl
  go_enter Try.func27, Try.ntmps27
  go_wp2_with fail
  refine (cN.out _).mono ?_
  rintro e w1 ⟨rfl, E1⟩
  clear cN hwn
  go_upto_region 5 with fail
  clear q1
  go_loopw [5, 4] (fun i o wr => ∃ (k : Nat) (s : List UInt8), i = .int .i64 k ∧ o = .string (ofL s) ∧ k ≤ n ∧ Ext w wr ∧ s = ((batQ l).take (1 + k)).flatten ∧ s.length ≤ 115 * (1 + k)) (fun i _ _ => n - (intOf i).toNat)
  case atStart => exact ⟨0, P, rfl, rfl, Nat.zero_le _, E1, by rw [show 1 + 0 = 1 from rfl, HQ0.out]; simp, by have := HPL.out; omega⟩
  case round =>
    clear E1
    obtain ⟨k, s, rfl, rfl, hkn, hE, hs, hsl⟩ := hrel
    have HS := Kp.mk hs
    clear hs
    by_cases hlt : k < n
    · obtain ⟨b, off, rfl, hbw, hcell⟩ := hcl.out (by omega)
      obtain ⟨x, hx⟩ : ∃ x, l[k]? = some x := ⟨_, List.getElem?_eq_getElem (by rw [HN.out]; exact hlt)⟩
      obtain ⟨c0, c1, c2, c3, c4⟩ := hcell k x hx wr hE
      have hmem := List.mem_of_getElem? hx
      have cPx := Kp.mk (cP.out x hmem)
      have cTx := Kp.mk (cT.out x hmem)
      have hfl := HLEN.out x hmem
      have HQ1 := batQ_get hx
      obtain ⟨RR, hRR⟩ : ∃ r, recE x = r := ⟨_, rfl⟩
      obtain ⟨FR, hFR⟩ : ∃ r, fText RR = r := ⟨_, rfl⟩
      simp only [hRR] at cPx cTx
      simp only [hFR] at cTx
      rw [hRR, hFR] at HQ1 hfl
      unfold evlV at cPx
      have HQ := Kp.mk (show s ++ FR = ((batQ l).take (1 + (k + 1))).flatten by rw [HQ1, List.flatten_append, HS.out]; simp)
      have hcat := ofL_append s FR
      have hcl2 : s.length + FR.length ≤ 9223372036854775807 := by omega
      obtain ⟨s2, hs2⟩ : ∃ s2, s ++ FR = s2 := ⟨_, rfl⟩
      have hl2 : s2.length = s.length + FR.length := by rw [← hs2, List.length_append]
      rw [hs2] at HQ hcat
      have HL2 := Kp.mk hl2
      have hcat' : ofL s ++ ofL FR = ofL s2 := hcat
      clear hcell hx hmem hRR hFR HQ1 hl2 hs2 hcat
      go_wp2_with fail
      refine (cPx.out _).mono ?_
      rintro e w3 ⟨rfl, E3⟩
      have F3 := hE.tr E3
      clear c0 c1 c2 c3 c4 hE E3 cPx
      go_wp2_with fail
      refine (cTx.out _).mono ?_
      rintro e w4 ⟨rfl, E4⟩
      have F4 := F3.tr E4
      clear F3 E4 cTx
      go_wp2
      go_roundw
      case rel => exact ⟨k + 1, s2, by go_num, rfl, hlt, F4, HQ.out, by have := HL2.out; omega⟩
      case measure => simp [intOf]; omega
    · obtain rfl : k = n := by omega
      have hbq : (batQ l).take (1 + k) = batQ l := List.take_of_length_le (by rw [batQ_len, HN.out]; exact Nat.le_refl _)
      obtain rfl : s = R := by rw [HS.out, hbq]; exact HR.out
      clear hbq HS HR
      go_wp2
      go_ret2
      exact ⟨rfl, hE⟩
end Go.Proofs.Ytmnpbpfeoackiaa
