/-
  Package record: a change's text. Condition: it has the form.
-/
import Derived.Test.YtmnpbpfeoackiaaBt6
namespace Go.Proofs.Ytmnpbpfeoackiaa
open Go.RowKit

theorem ftextL_any (s : List UInt8) (w : World) (hs : s.length ≤ 1000) : Calls Try.prog 39 #[.string (ofL s)] w fun e w' => e = .returned (.string (ofL (fText s))) ∧ Ext w w' := by
  have h := ftext_any (ofL s) w (by rw [size_ofL]; omega)
  rw [toL_ofL] at h
  exact h
theorem formE_nums {e : EvL} (h : FormE e) : (0 ≤ e.ep ∧ e.ep ≤ 1099511627776) ∧ (0 ≤ e.num ∧ e.num ≤ 1099511627776) ∧ e.kind ≤ 4 ∧ e.ten.length ≤ 32 ∧ e.text.length ≤ 32 := by
  rcases h with ⟨h0, h1, ⟨h2, h2'⟩, ⟨h3, h3'⟩, h4⟩ | ⟨h0, h1, h2, ⟨h3, h3'⟩, h4⟩ | ⟨h0, h1, h2, ⟨h3, h3'⟩, h4⟩
  · have := wordL_len h1
    rw [h4, h0]
    exact ⟨⟨h2, h2'⟩, ⟨by omega, h3'⟩, by omega, this.2, Nat.zero_le _⟩
  · have := wordL_len h1
    rw [h4, h0, h2]
    exact ⟨⟨by omega, by omega⟩, ⟨by omega, h3'⟩, by omega, this.2, by omega⟩
  · rw [h1, h4, h0, h2]
    exact ⟨⟨by omega, by omega⟩, ⟨by omega, h3'⟩, by omega, Nat.zero_le _, Nat.zero_le _⟩
theorem u8_of (k : Nat) (h : k ≤ 4) : ((k.toUInt8.toNat : Nat) : Int) = (k : Int) ∧ IntKind.u8.wrap (k : Int) = ((k.toUInt8.toNat : Nat) : Int) := by
  have : k = 0 ∨ k = 1 ∨ k = 2 ∨ k = 3 ∨ k = 4 := by omega
  rcases this with rfl | rfl | rfl | rfl | rfl <;> exact ⟨rfl, rfl⟩
set_option maxRecDepth 100000 in
set_option maxHeartbeats 1000000 in
theorem recput_any (e : EvL) (h : FormE e) (w : World) : Calls Try.prog 38 #[evlV e] w fun e' w' => e' = .returned (.tuple #[.string (ofL (recE e)), .int .i64 0]) ∧ Ext w w' := by
  obtain ⟨⟨hp0, hp1⟩, ⟨hn0, hn1⟩, hk4, ht32, hx32⟩ := formE_nums h
  have cF0 := fun W => form_any e h W
  have hrl := recE_len h
  obtain ⟨R, hR⟩ : ∃ R, recE e = R := ⟨_, rfl⟩
  rw [hR] at hrl ⊢
  have HR0 := hR
  obtain ⟨k, ten, num, ep, text⟩ := e
  unfold evlV at cF0 ⊢
  dsimp only at hp0 hp1 hn0 hn1 hk4 ht32 hx32 cF0 ⊢
  obtain ⟨p, rfl⟩ : ∃ p : Nat, ep = p := ⟨ep.toNat, by omega⟩
  obtain ⟨q, rfl⟩ : ∃ q : Nat, num = q := ⟨num.toNat, by omega⟩
  unfold recE at HR0
  dsimp only at HR0
  rw [Int.toNat_natCast, Int.toNat_natCast] at HR0
  obtain ⟨kb, hkb⟩ : ∃ b, k.toUInt8 = b := ⟨_, rfl⟩
  obtain ⟨hk1, hk2⟩ := u8_of k hk4
  rw [hkb] at hk1 hk2 HR0
  obtain ⟨T, hT⟩ : ∃ T, fText ten = T := ⟨_, rfl⟩
  obtain ⟨X, hX⟩ : ∃ T, fText text = T := ⟨_, rfl⟩
  obtain ⟨P, hP⟩ : ∃ T, vput p = T := ⟨_, rfl⟩
  obtain ⟨Q, hQ⟩ : ∃ T, vput q = T := ⟨_, rfl⟩
  rw [hT, hX, hP, hQ] at HR0
  have cT := Kp.mk (show ∀ W : World, Calls Try.prog 39 #[.string (ofL ten)] W fun e w' => e = .returned (.string (ofL T)) ∧ Ext W w' from fun W => by rw [← hT]; exact ftextL_any ten W (by omega))
  have cX := Kp.mk (show ∀ W : World, Calls Try.prog 39 #[.string (ofL text)] W fun e w' => e = .returned (.string (ofL X)) ∧ Ext W w' from fun W => by rw [← hX]; exact ftextL_any text W (by omega))
  have cP := Kp.mk (show ∀ W : World, Calls Try.prog 37 #[.int .u64 p] W fun e w' => e = .returned (.string (ofL P)) ∧ Ext W w' from fun W => by rw [← hP]; exact fnum_any p W (by show _ < _; omega))
  have cQ := Kp.mk (show ∀ W : World, Calls Try.prog 37 #[.int .u64 q] W fun e w' => e = .returned (.string (ofL Q)) ∧ Ext W w' from fun W => by rw [← hQ]; exact fnum_any q W (by show _ < _; omega))
  have hfl : [[kb], T, P, Q, X].flatten = R := by rw [← HR0]; simp
  have HFL := Kp.mk hfl; have HRL := Kp.mk hrl; have HK2 := Kp.mk hk2
  have hwp : IntKind.u64.wrap (p : Int) = (p : Int) := U64.wrap (by show _ < _; omega)
  have hwq : IntKind.u64.wrap (q : Int) = (q : Int) := U64.wrap (by show _ < _; omega)
  have HWP := Kp.mk hwp; have HWQ := Kp.mk hwq
  obtain ⟨W, hW, E0, A0⟩ : ∃ W, w.alloc (.cells #[.int .i64 k, .string (ofL ten), .int .i64 q, .int .i64 p, .string (ofL text)] 71) = W ∧ Ext w W ∧ Arr W w.heap.size 71 [.int .i64 k, .string (ofL ten), .int .i64 q, .int .i64 p, .string (ofL text)] := ⟨_, rfl, (Ext.rfl' w).al _, Arr.new w _ [.int .i64 k, .string (ofL ten), .int .i64 q, .int .i64 p, .string (ofL text)]⟩
  have HW := Kp.mk hW
  have cF := Kp.mk (cF0 W)
  have a0 := A0.cell 0; have a1 := A0.cell 1; have a2 := A0.cell 2; have a3 := A0.cell 3; have a4 := A0.cell 4
  simp only [List.getElem?_cons_zero, List.getElem?_cons_succ] at a0 a1 a2 a3 a4
  clear hW cF0 h hfl hrl hk1 hk2 HR0 hR hT hX hP hQ hkb hwp hwq
  go_enter Try.func38, Try.ntmps38
  go_upto_region 1 with fail
  rw [HW.out]
  clear HW
  go_wp2_with fail
  refine cF.out.mono ?_
  rintro e w1 ⟨rfl, E1⟩
  have A1 := A0.ext E1 A0.lt
  have F1 := E0.tr E1
  clear A0 E0 E1 a0 a1 a2 a3 a4 cF
  go_upto_region 3 with fail
  refine wp_region_localsE (fun i v W => match i with
    | 0 => v = .pointer (some ⟨w.heap.size, 0, none⟩)
    | 1 => v = .int .i64 k
    | 2 => v = .int .u8 (kb.toNat : Int)
    | 3 => ∃ b, v = .slice (some ⟨b, 0, none⟩) 1 1 ∧ Arr W b 5 [.int .u8 (kb.toNat : Int)]
    | 4 => v = .string (ofL [kb])
    | 5 => v = .pointer (some ⟨w.heap.size, 1, none⟩)
    | 6 => v = .string (ofL ten)
    | 7 => v = .string (ofL T)
    | 8 => v = .pointer (some ⟨w.heap.size, 3, none⟩)
    | 9 => v = .int .i64 p
    | 10 => v = .int .u64 p
    | 11 => v = .string (ofL P)
    | 12 => v = .pointer (some ⟨w.heap.size, 2, none⟩)
    | 13 => v = .int .i64 q
    | 14 => v = .int .u64 q
    | 15 => v = .string (ofL Q)
    | 16 => v = .pointer (some ⟨w.heap.size, 4, none⟩)
    | 17 => v = .string (ofL text)
    | 18 => v = .string (ofL X)
    | 19 => ∃ b, v = .slice (some ⟨b, 0, none⟩) 5 5 ∧ Arr W b 9 [.string (ofL [kb]), .string (ofL T), .string (ofL P), .string (ofL Q), .string (ofL X)]
    | 20 => v = .string (ofL R)
    | 21 => v = .string (ofL R)
    | 22 => v = .int .i64 0
    | _ => True) (by kernel_rfl) (by kernel_rfl) (by kernel_rfl) (by kernel_rfl) ?_ ?_ ?_
  · intro i v W1 W2 e1 e2 h
    match i, h with
    | 0, h => exact h
    | 1, h => exact h
    | 2, h => exact h
    | 3, ⟨b, h1, h2⟩ => exact ⟨b, h1, h2.ext e2 h2.lt⟩
    | 4, h => exact h
    | 5, h => exact h
    | 6, h => exact h
    | 7, h => exact h
    | 8, h => exact h
    | 9, h => exact h
    | 10, h => exact h
    | 11, h => exact h
    | 12, h => exact h
    | 13, h => exact h
    | 14, h => exact h
    | 15, h => exact h
    | 16, h => exact h
    | 17, h => exact h
    | 18, h => exact h
    | 19, ⟨b, h1, h2⟩ => exact ⟨b, h1, h2.ext e2 h2.lt⟩
    | 20, h => exact h
    | 21, h => exact h
    | 22, h => exact h
    | (i + 23), h => exact h
  · intro HF
    refine locals_cons (fun u W hW hd => ?_) ?_
    · refine opLeaves_ev HF rfl fun ev zc zg zf zt => ?_
      have t1 : ev (.tmp 1) = .pointer (some ⟨w.heap.size, 0, none⟩) := zt 1
      clear zt
      exact ev_val (v := .pointer (some ⟨w.heap.size, 0, none⟩)) (by go_simp) rfl
    refine locals_cons (fun u W hW hd => ?_) ?_
    · refine opLeaves_ev HF rfl fun ev zc zg zf zt => ?_
      have t7 : ev (.tmp 7) = u 0 := zt 7
      clear zt
      have h0 : u 0 = _ := hd 0 (by kernel_rfl)
      have q0 := (A1.ext hW A1.lt).cell 0
      simp only [List.getElem?_cons_zero] at q0
      exact ev_val (v := .int .i64 k) (by go_simp) rfl
    refine locals_cons (fun u W hW hd => ?_) ?_
    · refine opLeaves_ev HF rfl fun ev zc zg zf zt => ?_
      have t8 : ev (.tmp 8) = u 1 := zt 8
      clear zt
      have h1 : u 1 = _ := hd 1 (by kernel_rfl)
      have w8 := HK2.out
      exact ev_val (v := .int .u8 (kb.toNat : Int)) (by go_simp) rfl
    refine locals_cons (fun u W hW hd => ?_) ?_
    · refine opLeaves_ev HF rfl fun ev zc zg zf zt => ?_
      have t9 : ev (.tmp 9) = u 2 := zt 9
      clear zt
      have h2 : u 2 = _ := hd 2 (by kernel_rfl)
      exact ev_new (v := .slice (some ⟨W.heap.size, 0, none⟩) 1 1) (w' := W.alloc (.cells #[.int .u8 (kb.toNat : Int)] 5)) (by go_simp) ((Ext.rfl' W).al _) ⟨_, rfl, Arr.new W _ [.int .u8 (kb.toNat : Int)]⟩
    refine locals_cons (fun u W hW hd => ?_) ?_
    · refine opLeaves_ev HF rfl fun ev zc zg zf zt => ?_
      have t10 : ev (.tmp 10) = u 3 := zt 10
      clear zt
      have h3 := hd 3 (by kernel_rfl)
      obtain ⟨b, h3, hA⟩ := h3
      have hs := run_str_cells (P := Try.prog) W 92 9 5 Try.underlying92 Try.underlying5 Try.underlying9 ⟨b, 0, none⟩ 1 1 [kb] rfl (by intro j y hy; rw [WideShapes.add_plain, hA.cell, Nat.zero_add]; exact hy)
      exact ev_val (v := .string (ofL [kb])) (by go_simp) rfl
    refine locals_cons (fun u W hW hd => ?_) ?_
    · refine opLeaves_ev HF rfl fun ev zc zg zf zt => ?_
      have t1 : ev (.tmp 1) = .pointer (some ⟨w.heap.size, 0, none⟩) := zt 1
      clear zt
      exact ev_val (v := .pointer (some ⟨w.heap.size, 1, none⟩)) (by go_simp) rfl
    refine locals_cons (fun u W hW hd => ?_) ?_
    · refine opLeaves_ev HF rfl fun ev zc zg zf zt => ?_
      have t12 : ev (.tmp 12) = u 5 := zt 12
      clear zt
      have h5 : u 5 = _ := hd 5 (by kernel_rfl)
      have q0 := (A1.ext hW A1.lt).cell 1
      simp only [List.getElem?_cons_zero, List.getElem?_cons_succ] at q0
      exact ev_val (v := .string (ofL ten)) (by go_simp) rfl
    refine locals_cons (fun u W hW hd => ?_) ?_
    · refine opLeaves_ev HF rfl fun ev zc zg zf zt => ?_
      have t13 : ev (.tmp 13) = u 6 := zt 13
      clear zt
      have h6 : u 6 = _ := hd 6 (by kernel_rfl)
      exact ev_call (f := 39) (args := #[.string (ofL ten)]) (by go_simp) ((cT.out W).mono (by rintro e9 W9 ⟨rfl, h9⟩; exact ⟨_, rfl, h9, rfl⟩))
    refine locals_cons (fun u W hW hd => ?_) ?_
    · refine opLeaves_ev HF rfl fun ev zc zg zf zt => ?_
      have t1 : ev (.tmp 1) = .pointer (some ⟨w.heap.size, 0, none⟩) := zt 1
      clear zt
      exact ev_val (v := .pointer (some ⟨w.heap.size, 3, none⟩)) (by go_simp) rfl
    refine locals_cons (fun u W hW hd => ?_) ?_
    · refine opLeaves_ev HF rfl fun ev zc zg zf zt => ?_
      have t15 : ev (.tmp 15) = u 8 := zt 15
      clear zt
      have h8 : u 8 = _ := hd 8 (by kernel_rfl)
      have q0 := (A1.ext hW A1.lt).cell 3
      simp only [List.getElem?_cons_zero, List.getElem?_cons_succ] at q0
      exact ev_val (v := .int .i64 p) (by go_simp) rfl
    refine locals_cons (fun u W hW hd => ?_) ?_
    · refine opLeaves_ev HF rfl fun ev zc zg zf zt => ?_
      have t16 : ev (.tmp 16) = u 9 := zt 16
      clear zt
      have h9 : u 9 = _ := hd 9 (by kernel_rfl)
      have w9 := HWP.out
      exact ev_val (v := .int .u64 p) (by go_simp) rfl
    refine locals_cons (fun u W hW hd => ?_) ?_
    · refine opLeaves_ev HF rfl fun ev zc zg zf zt => ?_
      have t17 : ev (.tmp 17) = u 10 := zt 17
      clear zt
      have h10 : u 10 = _ := hd 10 (by kernel_rfl)
      exact ev_call (f := 37) (args := #[.int .u64 p]) (by go_simp) ((cP.out W).mono (by rintro e9 W9 ⟨rfl, h9⟩; exact ⟨_, rfl, h9, rfl⟩))
    refine locals_cons (fun u W hW hd => ?_) ?_
    · refine opLeaves_ev HF rfl fun ev zc zg zf zt => ?_
      have t1 : ev (.tmp 1) = .pointer (some ⟨w.heap.size, 0, none⟩) := zt 1
      clear zt
      exact ev_val (v := .pointer (some ⟨w.heap.size, 2, none⟩)) (by go_simp) rfl
    refine locals_cons (fun u W hW hd => ?_) ?_
    · refine opLeaves_ev HF rfl fun ev zc zg zf zt => ?_
      have t19 : ev (.tmp 19) = u 12 := zt 19
      clear zt
      have h12 : u 12 = _ := hd 12 (by kernel_rfl)
      have q0 := (A1.ext hW A1.lt).cell 2
      simp only [List.getElem?_cons_zero, List.getElem?_cons_succ] at q0
      exact ev_val (v := .int .i64 q) (by go_simp) rfl
    refine locals_cons (fun u W hW hd => ?_) ?_
    · refine opLeaves_ev HF rfl fun ev zc zg zf zt => ?_
      have t20 : ev (.tmp 20) = u 13 := zt 20
      clear zt
      have h13 : u 13 = _ := hd 13 (by kernel_rfl)
      have w9 := HWQ.out
      exact ev_val (v := .int .u64 q) (by go_simp) rfl
    refine locals_cons (fun u W hW hd => ?_) ?_
    · refine opLeaves_ev HF rfl fun ev zc zg zf zt => ?_
      have t21 : ev (.tmp 21) = u 14 := zt 21
      clear zt
      have h14 : u 14 = _ := hd 14 (by kernel_rfl)
      exact ev_call (f := 37) (args := #[.int .u64 q]) (by go_simp) ((cQ.out W).mono (by rintro e9 W9 ⟨rfl, h9⟩; exact ⟨_, rfl, h9, rfl⟩))
    refine locals_cons (fun u W hW hd => ?_) ?_
    · refine opLeaves_ev HF rfl fun ev zc zg zf zt => ?_
      have t1 : ev (.tmp 1) = .pointer (some ⟨w.heap.size, 0, none⟩) := zt 1
      clear zt
      exact ev_val (v := .pointer (some ⟨w.heap.size, 4, none⟩)) (by go_simp) rfl
    refine locals_cons (fun u W hW hd => ?_) ?_
    · refine opLeaves_ev HF rfl fun ev zc zg zf zt => ?_
      have t23 : ev (.tmp 23) = u 16 := zt 23
      clear zt
      have h16 : u 16 = _ := hd 16 (by kernel_rfl)
      have q0 := (A1.ext hW A1.lt).cell 4
      simp only [List.getElem?_cons_zero, List.getElem?_cons_succ] at q0
      exact ev_val (v := .string (ofL text)) (by go_simp) rfl
    refine locals_cons (fun u W hW hd => ?_) ?_
    · refine opLeaves_ev HF rfl fun ev zc zg zf zt => ?_
      have t24 : ev (.tmp 24) = u 17 := zt 24
      clear zt
      have h17 : u 17 = _ := hd 17 (by kernel_rfl)
      exact ev_call (f := 39) (args := #[.string (ofL text)]) (by go_simp) ((cX.out W).mono (by rintro e9 W9 ⟨rfl, h9⟩; exact ⟨_, rfl, h9, rfl⟩))
    refine locals_cons (fun u W hW hd => ?_) ?_
    · refine opLeaves_ev HF rfl fun ev zc zg zf zt => ?_
      have t11 : ev (.tmp 11) = u 4 := zt 11
      have t14 : ev (.tmp 14) = u 7 := zt 14
      have t18 : ev (.tmp 18) = u 11 := zt 18
      have t22 : ev (.tmp 22) = u 15 := zt 22
      have t25 : ev (.tmp 25) = u 18 := zt 25
      clear zt
      have h4 := hd 4 (by kernel_rfl)
      have h7 : u 7 = _ := hd 7 (by kernel_rfl)
      have h11 : u 11 = _ := hd 11 (by kernel_rfl)
      have h15 : u 15 = _ := hd 15 (by kernel_rfl)
      have h18 : u 18 = _ := hd 18 (by kernel_rfl)
      have h4 : u 4 = .string (ofL [kb]) := h4
      exact ev_new (v := .slice (some ⟨W.heap.size, 0, none⟩) 5 5) (w' := W.alloc (.cells #[.string (ofL [kb]), .string (ofL T), .string (ofL P), .string (ofL Q), .string (ofL X)] 9)) (by go_simp) ((Ext.rfl' W).al _) ⟨_, rfl, Arr.new W _ [.string (ofL [kb]), .string (ofL T), .string (ofL P), .string (ofL Q), .string (ofL X)]⟩
    refine locals_cons (fun u W hW hd => ?_) ?_
    · refine opLeaves_ev HF rfl fun ev zc zg zf zt => ?_
      have t26 : ev (.tmp 26) = u 19 := zt 26
      clear zt
      have h19 := hd 19 (by kernel_rfl)
      obtain ⟨b, h19, hA⟩ := h19
      have cJ := joined_any b 5 [[kb], T, P, Q, X] W (by intro j y hy; rw [hA.cell]; match j, hy with | 0, hy => (cases hy; rfl) | 1, hy => (cases hy; rfl) | 2, hy => (cases hy; rfl) | 3, hy => (cases hy; rfl) | 4, hy => (cases hy; rfl)) hA.lt (by simp) (by simp) (by rw [HFL.out]; have := HRL.out; omega)
      rw [HFL.out] at cJ
      exact ev_call (f := 40) (args := #[.slice (some ⟨b, 0, none⟩) 5 5]) (by go_simp) (cJ.mono (fun e9 W9 h9 => ⟨_, h9.1, h9.2, rfl⟩))
    refine locals_cons (fun u W hW hd => ?_) ?_
    · refine opLeaves_ev HF rfl fun ev zc zg zf zt => ?_
      have t27 : ev (.tmp 27) = u 20 := zt 27
      clear zt
      have h20 := hd 20 (by kernel_rfl)
      have h20 : u 20 = .string (ofL R) := h20
      exact ev_val (v := u 20) (by go_simp) h20
    refine locals_cons (fun u W hW hd => ?_) locals_nil
    · refine opLeaves_ev HF rfl fun ev zc zg zf zt => ?_
      clear zt
      exact ev_val (v := .int .i64 0) (by go_simp) rfl
  · intro u W4 hW hV
    have h21 : u 21 = .string (ofL R) := hV 21 (by decide)
    have h22 : u 22 = .int .i64 0 := hV 22 (by decide)
    have F4 := F1.tr hW
    clear hV hW A1 F1
    go_simp
    go_wp2
    go_ret2
    exact ⟨rfl, F4⟩
end Go.Proofs.Ytmnpbpfeoackiaa
