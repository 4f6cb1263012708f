/-
  The window's bound for all ints, the program's and the reference's. Condition: the numbers are ints.
-/
import Derived.Test.YtmnpbpfeoackiaaBr6
namespace Go.Proofs.Ytmnpbpfeoackiaa
open Go.RowKit

theorem windowI_any (nm : Value) (c f n : Int) (hc : c ≤ 9223372036854775807) (hf : f ≤ 9223372036854775807) (hn : n ≤ 9223372036854775807) (w : World) : Calls Try.prog 12 #[.agg #[nm, .int .i64 c, .int .i64 f], .int .i64 n] w fun e w' => e = .returned (.int .i64 (winN c.toNat f.toNat n.toNat)) ∧ Ext w w' := by
  obtain ⟨W, hW, E0, A0⟩ : ∃ W, w.alloc (.cells #[nm, .int .i64 c, .int .i64 f] 23) = W ∧ Ext w W ∧ Arr W w.heap.size 23 [nm, .int .i64 c, .int .i64 f] := ⟨_, rfl, (Ext.rfl' w).al _, Arr.new w _ [nm, .int .i64 c, .int .i64 f]⟩
  have HW := Kp.mk hW
  have c1 := fun W => upI_any c W
  have c2 := fun W => upI_any f W
  have c3 := fun W => upI_any n W
  obtain ⟨cap, hcap⟩ : ∃ m, c.toNat = m := ⟨_, rfl⟩
  obtain ⟨fill, hfill⟩ : ∃ m, f.toNat = m := ⟨_, rfl⟩
  obtain ⟨ticks, hticks⟩ : ∃ m, n.toNat = m := ⟨_, rfl⟩
  simp only [hcap] at c1
  simp only [hfill] at c2
  simp only [hticks] at c3
  rw [hcap, hfill, hticks]
  obtain ⟨m, hm⟩ : ∃ m, min (fill * ticks) 9223372036854775807 = m := ⟨_, rfl⟩
  have cM := fun W => smul_any fill ticks (by omega) (by omega) W
  have cA := fun W => sadd_any cap m (by omega) (by omega) W
  obtain ⟨r, hr⟩ : ∃ r, winN cap fill ticks = r := ⟨_, rfl⟩
  rw [hr]
  unfold winN at hr
  rw [hm] at hr
  simp only [hm] at cM
  simp only [hr] at cA
  replace cM := Kp.mk cM; replace cA := Kp.mk cA; replace c1 := Kp.mk c1; replace c2 := Kp.mk c2; replace c3 := Kp.mk c3
  clear hW hm hr hc hf hn hcap hfill hticks
  go_enter Try.func12, Try.ntmps12
  go_upto_region 1 with fail
  rw [HW.out]
  clear HW
  refine wp_region_localsE (fun i v W => match i with
    | 0 => v = .pointer (some ⟨w.heap.size, 1, none⟩)
    | 1 => v = .int .i64 c
    | 2 => v = .int .i64 cap
    | 3 => v = .pointer (some ⟨w.heap.size, 2, none⟩)
    | 4 => v = .int .i64 f
    | 5 => v = .int .i64 fill
    | 6 => v = .int .i64 n
    | 7 => v = .int .i64 ticks
    | 8 => v = .int .i64 m
    | 9 => v = .int .i64 r
    | 10 => v = .int .i64 r
    | _ => True) (by kernel_rfl) (by kernel_rfl) (by kernel_rfl) (by kernel_rfl) ?_ ?_ ?_
  · intro i v W1 W2 e1 e2 h
    match i, h with
    | 0, h => exact h
    | 1, h => exact h
    | 2, h => exact h
    | 3, h => exact h
    | 4, h => exact h
    | 5, h => exact h
    | 6, h => exact h
    | 7, h => exact h
    | 8, h => exact h
    | 9, h => exact h
    | 10, h => exact h
    | (i + 11), h => exact h
  · intro HF
    refine locals_cons (fun u W hW hd => ?_) ?_
    · refine opLeaves_ev HF rfl fun ev zc zg zf zt => ?_
      have t2 : ev (.tmp 2) = .pointer (some ⟨w.heap.size, 0, none⟩) := zt 2
      clear zt
      exact ev_val (v := .pointer (some ⟨w.heap.size, 1, none⟩)) (by go_simp) rfl
    refine locals_cons (fun u W hW hd => ?_) ?_
    · refine opLeaves_ev HF rfl fun ev zc zg zf zt => ?_
      have t5 : ev (.tmp 5) = u 0 := zt 5
      clear zt
      have h0 : u 0 = _ := hd 0 (by kernel_rfl)
      have q := (A0.ext hW A0.lt).cell 1
      simp only [List.getElem?_cons_zero, List.getElem?_cons_succ] at q
      exact ev_val (v := .int .i64 c) (by go_simp) rfl
    refine locals_cons (fun u W hW hd => ?_) ?_
    · refine opLeaves_ev HF rfl fun ev zc zg zf zt => ?_
      have t6 : ev (.tmp 6) = u 1 := zt 6
      clear zt
      have h1 : u 1 = _ := hd 1 (by kernel_rfl)
      exact ev_call (f := 18) (args := #[.int .i64 c]) (by go_simp) ((c1.out W).mono (by rintro e9 W9 ⟨rfl, h9⟩; exact ⟨_, rfl, h9, rfl⟩))
    refine locals_cons (fun u W hW hd => ?_) ?_
    · refine opLeaves_ev HF rfl fun ev zc zg zf zt => ?_
      have t2 : ev (.tmp 2) = .pointer (some ⟨w.heap.size, 0, none⟩) := zt 2
      clear zt
      exact ev_val (v := .pointer (some ⟨w.heap.size, 2, none⟩)) (by go_simp) rfl
    refine locals_cons (fun u W hW hd => ?_) ?_
    · refine opLeaves_ev HF rfl fun ev zc zg zf zt => ?_
      have t8 : ev (.tmp 8) = u 3 := zt 8
      clear zt
      have h3 : u 3 = _ := hd 3 (by kernel_rfl)
      have q := (A0.ext hW A0.lt).cell 2
      simp only [List.getElem?_cons_zero, List.getElem?_cons_succ] at q
      exact ev_val (v := .int .i64 f) (by go_simp) rfl
    refine locals_cons (fun u W hW hd => ?_) ?_
    · refine opLeaves_ev HF rfl fun ev zc zg zf zt => ?_
      have t9 : ev (.tmp 9) = u 4 := zt 9
      clear zt
      have h4 : u 4 = _ := hd 4 (by kernel_rfl)
      exact ev_call (f := 18) (args := #[.int .i64 f]) (by go_simp) ((c2.out W).mono (by rintro e9 W9 ⟨rfl, h9⟩; exact ⟨_, rfl, h9, rfl⟩))
    refine locals_cons (fun u W hW hd => ?_) ?_
    · refine opLeaves_ev HF rfl fun ev zc zg zf zt => ?_
      have t1 : ev (.tmp 1) = .int .i64 n := zt 1
      clear zt
      exact ev_val (v := .int .i64 n) (by go_simp) rfl
    refine locals_cons (fun u W hW hd => ?_) ?_
    · refine opLeaves_ev HF rfl fun ev zc zg zf zt => ?_
      have t11 : ev (.tmp 11) = u 6 := zt 11
      clear zt
      have h6 : u 6 = _ := hd 6 (by kernel_rfl)
      exact ev_call (f := 18) (args := #[.int .i64 n]) (by go_simp) ((c3.out W).mono (by rintro e9 W9 ⟨rfl, h9⟩; exact ⟨_, rfl, h9, rfl⟩))
    refine locals_cons (fun u W hW hd => ?_) ?_
    · refine opLeaves_ev HF rfl fun ev zc zg zf zt => ?_
      have t10 : ev (.tmp 10) = u 5 := zt 10
      have t12 : ev (.tmp 12) = u 7 := zt 12
      clear zt
      have h5 : u 5 = _ := hd 5 (by kernel_rfl)
      have h7 : u 7 = _ := hd 7 (by kernel_rfl)
      exact ev_call (f := 19) (args := #[.int .i64 fill, .int .i64 ticks]) (by go_simp) ((cM.out W).mono (by rintro e9 W9 ⟨rfl, h9⟩; exact ⟨_, rfl, h9, rfl⟩))
    refine locals_cons (fun u W hW hd => ?_) ?_
    · refine opLeaves_ev HF rfl fun ev zc zg zf zt => ?_
      have t7 : ev (.tmp 7) = u 2 := zt 7
      have t13 : ev (.tmp 13) = u 8 := zt 13
      clear zt
      have h2 : u 2 = _ := hd 2 (by kernel_rfl)
      have h8 : u 8 = _ := hd 8 (by kernel_rfl)
      exact ev_call (f := 20) (args := #[.int .i64 cap, .int .i64 m]) (by go_simp) ((cA.out W).mono (by rintro e9 W9 ⟨rfl, h9⟩; exact ⟨_, rfl, h9, rfl⟩))
    refine locals_cons (fun u W hW hd => ?_) locals_nil
    · refine opLeaves_ev HF rfl fun ev zc zg zf zt => ?_
      have t14 : ev (.tmp 14) = u 9 := zt 14
      clear zt
      have h9 : u 9 = _ := hd 9 (by kernel_rfl)
      exact ev_val (v := .int .i64 r) (by go_simp) rfl
  · intro u W4 hW hV
    have h10 : u 10 = .int .i64 r := hV 10 (by decide)
    have F4 := E0.tr hW
    clear hV hW A0 E0
    go_simp
    go_wp2
    go_ret
    exact ⟨rfl, F4⟩
theorem rwindowI_any (nm : Value) (c f n : Int) (hc : c ≤ 9223372036854775807) (hf : f ≤ 9223372036854775807) (hn : n ≤ 9223372036854775807) (w : World) : Calls Try.prog 13 #[.agg #[nm, .int .i64 c, .int .i64 f], .int .i64 n] w fun e w' => e = .returned (.int .i64 (winN c.toNat f.toNat n.toNat)) ∧ Ext w w' := by
  obtain ⟨W, hW, E0, A0⟩ : ∃ W, w.alloc (.cells #[nm, .int .i64 c, .int .i64 f] 23) = W ∧ Ext w W ∧ Arr W w.heap.size 23 [nm, .int .i64 c, .int .i64 f] := ⟨_, rfl, (Ext.rfl' w).al _, Arr.new w _ [nm, .int .i64 c, .int .i64 f]⟩
  have HW := Kp.mk hW
  have c1 := fun W => rup_any c W
  have c2 := fun W => rup_any f W
  have c3 := fun W => rup_any n W
  obtain ⟨cap, hcap⟩ : ∃ m, c.toNat = m := ⟨_, rfl⟩
  obtain ⟨fill, hfill⟩ : ∃ m, f.toNat = m := ⟨_, rfl⟩
  obtain ⟨ticks, hticks⟩ : ∃ m, n.toNat = m := ⟨_, rfl⟩
  simp only [hcap] at c1
  simp only [hfill] at c2
  simp only [hticks] at c3
  rw [hcap, hfill, hticks]
  obtain ⟨m, hm⟩ : ∃ m, min (fill * ticks) 9223372036854775807 = m := ⟨_, rfl⟩
  have cM := fun W => rmul_any fill ticks (by omega) (by omega) W
  have cA := fun W => radd_any cap m (by omega) (by omega) W
  obtain ⟨r, hr⟩ : ∃ r, winN cap fill ticks = r := ⟨_, rfl⟩
  rw [hr]
  unfold winN at hr
  rw [hm] at hr
  simp only [hm] at cM
  simp only [hr] at cA
  replace cM := Kp.mk cM; replace cA := Kp.mk cA; replace c1 := Kp.mk c1; replace c2 := Kp.mk c2; replace c3 := Kp.mk c3
  clear hW hm hr hc hf hn hcap hfill hticks
  go_enter Try.func13, Try.ntmps13
  go_upto_region 1 with fail
  rw [HW.out]
  clear HW
  refine wp_region_localsE (fun i v W => match i with
    | 0 => v = .pointer (some ⟨w.heap.size, 1, none⟩)
    | 1 => v = .int .i64 c
    | 2 => v = .int .i64 cap
    | 3 => v = .pointer (some ⟨w.heap.size, 2, none⟩)
    | 4 => v = .int .i64 f
    | 5 => v = .int .i64 fill
    | 6 => v = .int .i64 n
    | 7 => v = .int .i64 ticks
    | 8 => v = .int .i64 m
    | 9 => v = .int .i64 r
    | 10 => v = .int .i64 r
    | _ => True) (by kernel_rfl) (by kernel_rfl) (by kernel_rfl) (by kernel_rfl) ?_ ?_ ?_
  · intro i v W1 W2 e1 e2 h
    match i, h with
    | 0, h => exact h
    | 1, h => exact h
    | 2, h => exact h
    | 3, h => exact h
    | 4, h => exact h
    | 5, h => exact h
    | 6, h => exact h
    | 7, h => exact h
    | 8, h => exact h
    | 9, h => exact h
    | 10, h => exact h
    | (i + 11), h => exact h
  · intro HF
    refine locals_cons (fun u W hW hd => ?_) ?_
    · refine opLeaves_ev HF rfl fun ev zc zg zf zt => ?_
      have t2 : ev (.tmp 2) = .pointer (some ⟨w.heap.size, 0, none⟩) := zt 2
      clear zt
      exact ev_val (v := .pointer (some ⟨w.heap.size, 1, none⟩)) (by go_simp) rfl
    refine locals_cons (fun u W hW hd => ?_) ?_
    · refine opLeaves_ev HF rfl fun ev zc zg zf zt => ?_
      have t5 : ev (.tmp 5) = u 0 := zt 5
      clear zt
      have h0 : u 0 = _ := hd 0 (by kernel_rfl)
      have q := (A0.ext hW A0.lt).cell 1
      simp only [List.getElem?_cons_zero, List.getElem?_cons_succ] at q
      exact ev_val (v := .int .i64 c) (by go_simp) rfl
    refine locals_cons (fun u W hW hd => ?_) ?_
    · refine opLeaves_ev HF rfl fun ev zc zg zf zt => ?_
      have t6 : ev (.tmp 6) = u 1 := zt 6
      clear zt
      have h1 : u 1 = _ := hd 1 (by kernel_rfl)
      exact ev_call (f := 21) (args := #[.int .i64 c]) (by go_simp) ((c1.out W).mono (by rintro e9 W9 ⟨rfl, h9⟩; exact ⟨_, rfl, h9, rfl⟩))
    refine locals_cons (fun u W hW hd => ?_) ?_
    · refine opLeaves_ev HF rfl fun ev zc zg zf zt => ?_
      have t2 : ev (.tmp 2) = .pointer (some ⟨w.heap.size, 0, none⟩) := zt 2
      clear zt
      exact ev_val (v := .pointer (some ⟨w.heap.size, 2, none⟩)) (by go_simp) rfl
    refine locals_cons (fun u W hW hd => ?_) ?_
    · refine opLeaves_ev HF rfl fun ev zc zg zf zt => ?_
      have t8 : ev (.tmp 8) = u 3 := zt 8
      clear zt
      have h3 : u 3 = _ := hd 3 (by kernel_rfl)
      have q := (A0.ext hW A0.lt).cell 2
      simp only [List.getElem?_cons_zero, List.getElem?_cons_succ] at q
      exact ev_val (v := .int .i64 f) (by go_simp) rfl
    refine locals_cons (fun u W hW hd => ?_) ?_
    · refine opLeaves_ev HF rfl fun ev zc zg zf zt => ?_
      have t9 : ev (.tmp 9) = u 4 := zt 9
      clear zt
      have h4 : u 4 = _ := hd 4 (by kernel_rfl)
      exact ev_call (f := 21) (args := #[.int .i64 f]) (by go_simp) ((c2.out W).mono (by rintro e9 W9 ⟨rfl, h9⟩; exact ⟨_, rfl, h9, rfl⟩))
    refine locals_cons (fun u W hW hd => ?_) ?_
    · refine opLeaves_ev HF rfl fun ev zc zg zf zt => ?_
      have t1 : ev (.tmp 1) = .int .i64 n := zt 1
      clear zt
      exact ev_val (v := .int .i64 n) (by go_simp) rfl
    refine locals_cons (fun u W hW hd => ?_) ?_
    · refine opLeaves_ev HF rfl fun ev zc zg zf zt => ?_
      have t11 : ev (.tmp 11) = u 6 := zt 11
      clear zt
      have h6 : u 6 = _ := hd 6 (by kernel_rfl)
      exact ev_call (f := 21) (args := #[.int .i64 n]) (by go_simp) ((c3.out W).mono (by rintro e9 W9 ⟨rfl, h9⟩; exact ⟨_, rfl, h9, rfl⟩))
    refine locals_cons (fun u W hW hd => ?_) ?_
    · refine opLeaves_ev HF rfl fun ev zc zg zf zt => ?_
      have t10 : ev (.tmp 10) = u 5 := zt 10
      have t12 : ev (.tmp 12) = u 7 := zt 12
      clear zt
      have h5 : u 5 = _ := hd 5 (by kernel_rfl)
      have h7 : u 7 = _ := hd 7 (by kernel_rfl)
      exact ev_call (f := 11) (args := #[.int .i64 fill, .int .i64 ticks]) (by go_simp) ((cM.out W).mono (by rintro e9 W9 ⟨rfl, h9⟩; exact ⟨_, rfl, h9, rfl⟩))
    refine locals_cons (fun u W hW hd => ?_) ?_
    · refine opLeaves_ev HF rfl fun ev zc zg zf zt => ?_
      have t7 : ev (.tmp 7) = u 2 := zt 7
      have t13 : ev (.tmp 13) = u 8 := zt 13
      clear zt
      have h2 : u 2 = _ := hd 2 (by kernel_rfl)
      have h8 : u 8 = _ := hd 8 (by kernel_rfl)
      exact ev_call (f := 22) (args := #[.int .i64 cap, .int .i64 m]) (by go_simp) ((cA.out W).mono (by rintro e9 W9 ⟨rfl, h9⟩; exact ⟨_, rfl, h9, rfl⟩))
    refine locals_cons (fun u W hW hd => ?_) locals_nil
    · refine opLeaves_ev HF rfl fun ev zc zg zf zt => ?_
      have t14 : ev (.tmp 14) = u 9 := zt 14
      clear zt
      have h9 : u 9 = _ := hd 9 (by kernel_rfl)
      exact ev_val (v := .int .i64 r) (by go_simp) rfl
  · intro u W4 hW hV
    have h10 : u 10 = .int .i64 r := hV 10 (by decide)
    have F4 := E0.tr hW
    clear hV hW A0 E0
    go_simp
    go_wp2
    go_ret
    exact ⟨rfl, F4⟩
end Go.Proofs.Ytmnpbpfeoackiaa
