/-
  Package bound: numbers: sat's Add and Mul over numbers that are not below zero, up, Tags, Automata, Window; package entry: Blocks of a short text. No condition. · Packages ring, plan, record, bound: the image of the state that holds nothing. No condition. · Packages record, bound: the text of the change that makes the state that holds nothing; the chapter's examples. No condition. · Packages record, bound: the batch of the state that holds nothing; the chapter's examples. No condition.
-/
import Derived.Test.YtejhiekikblbiaaGreatDoorFldTx
import Derived.Test.YtejhiekikblbiaaGreatDoorInvE
import Derived.Test.YtejhiekikblbiaaGreatDoorGen
namespace Go.Proofs.YtejhiekikblbiaaGreatDoor
open Go.RowKit

theorem up_any (n : Int) (w : World) : Calls Tryz.prog 73 #[.int .i64 n] w fun e w' => e = .returned (.int .i64 (max n 0)) ∧ Ext w w' := by
  go_enter Tryz.func73, Tryz.ntmps73
  go_wp2
  go_ret
  exact ⟨rfl, Ext.rfl' _⟩
theorem size_any (a : Nat) (ha : a < 9223372036854775808) (w : World) : Calls Tryz.prog 126 #[.int .i64 a] w fun e w' => e = .returned (.int .u64 a) ∧ Ext w w' := by
  have hu : IntKind.u64.wrap (a : Int) = (a : Int) := U64.wrap (by show _ < _; omega)
  have d1 : decide ((a : Int) < 0) = false := by simp
  go_enter Tryz.func126, Tryz.ntmps126
  go_wp2
  go_ret
  exact ⟨rfl, Ext.rfl' _⟩
theorem sadd_any (a b : Nat) (ha : a < 9223372036854775808) (hb : b < 9223372036854775808) (w : World) : Calls Tryz.prog 99 #[.int .i64 a, .int .i64 b] w fun e w' => e = .returned (.int .i64 (min (a + b) 9223372036854775807 : Nat)) ∧ Ext w w' := by
  have n1 : decide ((a : Int) < 0) = false := by simp
  have n2 : decide ((b : Int) < 0) = false := by simp
  by_cases h : a + b < 9223372036854775808
  · have hw : IntKind.i64.wrap ((a : Int) + (b : Int)) = ((a + b : Nat) : Int) := by rw [IntWalk.i64_in _ (by omega)]; push_cast; rfl
    have hs : decide (((a + b : Nat) : Int) < 0) = false := decide_eq_false (by omega)
    have hr : min (a + b) 9223372036854775807 = a + b := by omega
    rw [hr]
    clear hr
    obtain ⟨s, hse⟩ : ∃ s, a + b = s := ⟨_, rfl⟩
    rw [hse] at hw hs ⊢
    clear hse h
    by_cases ga : 0 < a
    · have p1 : decide ((0 : Int) < (a : Int)) = true := by simp; omega
      by_cases gb : 0 < b
      · have p2 : decide ((0 : Int) < (b : Int)) = true := by simp; omega
        clear ha hb
        go_enter Tryz.func99, Tryz.ntmps99
        go_wp2
        go_ret
        exact ⟨rfl, Ext.rfl' _⟩
      · have p2 : decide ((0 : Int) < (b : Int)) = false := by simp; omega
        clear ha hb
        go_enter Tryz.func99, Tryz.ntmps99
        go_wp2
        go_ret
        exact ⟨rfl, Ext.rfl' _⟩
    · have p1 : decide ((0 : Int) < (a : Int)) = false := by simp; omega
      clear ha hb
      go_enter Tryz.func99, Tryz.ntmps99
      go_wp2
      go_ret
      exact ⟨rfl, Ext.rfl' _⟩
  · have hr : min (a + b) 9223372036854775807 = 9223372036854775807 := by omega
    rw [hr]
    clear hr
    have hw : IntKind.i64.wrap ((a : Int) + (b : Int)) = (a : Int) + (b : Int) - 18446744073709551616 := by rw [IntKind.wrap_i64]; omega
    have hs : decide ((a : Int) + (b : Int) - 18446744073709551616 < 0) = true := decide_eq_true (by omega)
    have p1 : decide ((0 : Int) < (a : Int)) = true := by simp; omega
    have p2 : decide ((0 : Int) < (b : Int)) = true := by simp; omega
    obtain ⟨s, hse⟩ : ∃ s, (a : Int) + (b : Int) - 18446744073709551616 = s := ⟨_, rfl⟩
    rw [hse] at hw hs
    have ga : 0 < a := by omega
    have gb : 0 < b := by omega
    clear hse h ha hb p1 p2
    go_enter Tryz.func99, Tryz.ntmps99
    go_wp2
    go_ret
    exact ⟨rfl, Ext.rfl' _⟩
set_option maxRecDepth 100000 in
set_option maxHeartbeats 1000000 in
theorem smul_any (a b : Nat) (ha : a < 9223372036854775808) (hb : b < 9223372036854775808) (w : World) : Calls Tryz.prog 98 #[.int .i64 a, .int .i64 b] w fun e w' => e = .returned (.int .i64 (min (a * b) 9223372036854775807 : Nat)) ∧ Ext w w' := by
  have n1 : decide ((a : Int) < 0) = false := by simp
  have n2 : decide ((b : Int) < 0) = false := by simp
  have c1 := Kp.mk (fun W => size_any a ha W)
  have c2 := Kp.mk (fun W => size_any b hb W)
  have cM := fun W => Tryz.bits_Mul64 a b (by omega) (by omega) W
  obtain ⟨p, hp⟩ : ∃ p, a * b = p := ⟨_, rfl⟩
  rw [hp]
  simp only [hp] at cM
  obtain ⟨hi, hhi⟩ : ∃ q, p / 18446744073709551616 = q := ⟨_, rfl⟩
  obtain ⟨lo, hlo⟩ : ∃ q, p % 18446744073709551616 = q := ⟨_, rfl⟩
  simp only [hhi, hlo] at cM
  replace cM := Kp.mk cM
  clear hp
  by_cases h : p < 9223372036854775808
  · have e1 : hi = 0 := by omega
    have e2 : lo = p := by omega
    rw [show min p 9223372036854775807 = p by omega]
    have hw : IntKind.i64.wrap (p : Int) = (p : Int) := IntWalk.i64_in _ (by omega)
    have g2 : decide ((9223372036854775808 : Int) ≤ (p : Int)) = false := decide_eq_false (by omega)
    rw [e1, e2] at cM
    clear e1 e2 hhi hlo h ha hb
    go_enter Tryz.func98, Tryz.ntmps98
    go_wp2_with fail
    refine (c1.out _).mono ?_
    rintro e w1 ⟨rfl, E1⟩
    go_wp2_with fail
    refine (c2.out _).mono ?_
    rintro e w2 ⟨rfl, E2⟩
    have F2 := E1.tr E2
    clear E1 E2 c1 c2
    go_wp2_with fail
    refine (cM.out _).mono ?_
    rintro e w3 ⟨rfl, h3⟩
    subst h3
    clear cM
    go_wp2
    go_ret
    exact ⟨rfl, F2⟩
  · have er : ((min p 9223372036854775807 : Nat) : Int) = 9223372036854775807 := by omega
    rw [er]
    by_cases g1 : 0 < hi
    · clear er hhi hlo h ha hb
      go_enter Tryz.func98, Tryz.ntmps98
      go_wp2_with fail
      refine (c1.out _).mono ?_
      rintro e w1 ⟨rfl, E1⟩
      go_wp2_with fail
      refine (c2.out _).mono ?_
      rintro e w2 ⟨rfl, E2⟩
      have F2 := E1.tr E2
      clear E1 E2 c1 c2
      go_wp2_with fail
      refine (cM.out _).mono ?_
      rintro e w3 ⟨rfl, h3⟩
      subst h3
      clear cM
      go_wp2
      go_ret
      exact ⟨rfl, F2⟩
    · have g2 : decide ((9223372036854775808 : Int) ≤ (lo : Int)) = true := decide_eq_true (by omega)
      clear er hhi hlo h ha hb
      go_enter Tryz.func98, Tryz.ntmps98
      go_wp2_with fail
      refine (c1.out _).mono ?_
      rintro e w1 ⟨rfl, E1⟩
      go_wp2_with fail
      refine (c2.out _).mono ?_
      rintro e w2 ⟨rfl, E2⟩
      have F2 := E1.tr E2
      clear E1 E2 c1 c2
      go_wp2_with fail
      refine (cM.out _).mono ?_
      rintro e w3 ⟨rfl, h3⟩
      subst h3
      clear cM
      go_wp2
      go_ret
      exact ⟨rfl, F2⟩
theorem btags_any (n : Nat) (hn : n < 9223372036854775808) (w : World) : Calls Tryz.prog 33 #[.int .i64 n] w fun e w' => e = .returned (.int .i64 (n / 2 : Nat)) ∧ Ext w w' := by
  have c := up_any n w
  rw [show max (n : Int) 0 = (n : Int) by omega] at c
  have hq : (n : Int).tdiv 2 = ((n / 2 : Nat) : Int) := by rw [Int.tdiv_eq_ediv_of_nonneg (by omega)]; omega
  have hw : IntKind.i64.wrap ((n / 2 : Nat) : Int) = ((n / 2 : Nat) : Int) := IntWalk.i64_in _ (by omega)
  obtain ⟨q, hqe⟩ : ∃ q, n / 2 = q := ⟨_, rfl⟩
  rw [hqe] at hq hw ⊢
  clear hqe
  go_enter Tryz.func33, Tryz.ntmps33
  go_wp2_with fail
  refine c.mono ?_
  rintro e w1 ⟨rfl, E1⟩
  go_wp2
  go_ret
  exact ⟨rfl, E1⟩
theorem automata_any (n : Nat) (hn : n < 9223372036854775000) (w : World) : Calls Tryz.prog 63 #[.int .i64 n] w fun e w' => e = .returned (.int .i64 (min (n * (n + 2)) 9223372036854775807 : Nat)) ∧ Ext w w' := by
  have c := up_any n w
  rw [show max (n : Int) 0 = (n : Int) by omega] at c
  have c2 := fun W => sadd_any n 2 (by omega) (by omega) W
  rw [show min (n + 2) 9223372036854775807 = n + 2 by omega] at c2
  have c3 := fun W => smul_any n (n + 2) (by omega) (by omega) W
  obtain ⟨m, hm⟩ : ∃ m, n + 2 = m := ⟨_, rfl⟩
  obtain ⟨r, hr⟩ : ∃ r, min (n * m) 9223372036854775807 = r := ⟨_, rfl⟩
  simp only [hm, hr] at c2 c3
  rw [hm, hr]
  replace c2 := Kp.mk c2; replace c3 := Kp.mk c3
  clear hm hr
  go_enter Tryz.func63, Tryz.ntmps63
  go_wp2_with fail
  refine c.mono ?_
  rintro e w1 ⟨rfl, E1⟩
  go_wp2_with fail
  refine (c2.out _).mono ?_
  rintro e w2 ⟨rfl, E2⟩
  go_wp2_with fail
  refine (c3.out _).mono ?_
  rintro e w3 ⟨rfl, E3⟩
  go_wp2
  go_ret
  exact ⟨rfl, (E1.tr E2).tr E3⟩
/-- The window's bound. -/
def winN (cap fill ticks : Nat) : Nat := min (cap + min (fill * ticks) 9223372036854775807) 9223372036854775807
theorem window_any (nm : Value) (cap fill ticks : Nat) (hc : cap < 9223372036854775808) (hf : fill < 9223372036854775808) (ht : ticks < 9223372036854775808) (w : World) : Calls Tryz.prog 64 #[.agg #[nm, .int .i64 cap, .int .i64 fill], .int .i64 ticks] w fun e w' => e = .returned (.int .i64 (winN cap fill ticks)) ∧ Ext w w' := by
  obtain ⟨W, hW, E0, A0⟩ : ∃ W, w.alloc (.cells #[nm, .int .i64 cap, .int .i64 fill] 93) = W ∧ Ext w W ∧ Arr W w.heap.size 93 [nm, .int .i64 cap, .int .i64 fill] := ⟨_, rfl, (Ext.rfl' w).al _, Arr.new w _ [nm, .int .i64 cap, .int .i64 fill]⟩
  have HW := Kp.mk hW
  have cU := Kp.mk (show ∀ (n : Nat) (W : World), Calls Tryz.prog 73 #[.int .i64 n] W fun e w' => e = .returned (.int .i64 n) ∧ Ext W w' from fun n W => by
    have c := up_any n W
    rw [show max (n : Int) 0 = (n : Int) by omega] at c
    exact c)
  obtain ⟨m, hm⟩ : ∃ m, min (fill * ticks) 9223372036854775807 = m := ⟨_, rfl⟩
  have cM := fun W => smul_any fill ticks hf ht W
  have cA := fun W => sadd_any cap m hc (by omega) W
  obtain ⟨r, hr⟩ : ∃ r, winN cap fill ticks = r := ⟨_, rfl⟩
  rw [hr]
  unfold winN at hr
  rw [hm] at hr
  simp only [hm] at cM
  simp only [hr] at cA
  replace cM := Kp.mk cM; replace cA := Kp.mk cA
  clear hW hm hr
  go_enter Tryz.func64, Tryz.ntmps64
  go_upto_region 1 with fail
  rw [HW.out]
  clear HW
  refine wp_region_localsE (fun i v W => match i with
    | 0 => v = .pointer (some ⟨w.heap.size, 1, none⟩)
    | 1 => v = .int .i64 cap
    | 2 => v = .int .i64 cap
    | 3 => v = .pointer (some ⟨w.heap.size, 2, none⟩)
    | 4 => v = .int .i64 fill
    | 5 => v = .int .i64 fill
    | 6 => v = .int .i64 ticks
    | 7 => v = .int .i64 ticks
    | 8 => v = .int .i64 m
    | 9 => v = .int .i64 r
    | 10 => v = .int .i64 r
    | _ => True) (by kernel_rfl) (by kernel_rfl) (by kernel_rfl) (by kernel_rfl) ?_ ?_ ?_
  · intro i v W1 W2 e1 e2 h
    match i, h with
    | 0, h => exact h
    | 1, h => exact h
    | 2, h => exact h
    | 3, h => exact h
    | 4, h => exact h
    | 5, h => exact h
    | 6, h => exact h
    | 7, h => exact h
    | 8, h => exact h
    | 9, h => exact h
    | 10, h => exact h
    | (i + 11), h => exact h
  · intro HF
    refine locals_cons (fun u W hW hd => ?_) ?_
    · refine opLeaves_ev HF rfl fun ev zc zg zf zt => ?_
      have t2 : ev (.tmp 2) = .pointer (some ⟨w.heap.size, 0, none⟩) := zt 2
      clear zt
      exact ev_val (v := .pointer (some ⟨w.heap.size, 1, none⟩)) (by go_simp) rfl
    refine locals_cons (fun u W hW hd => ?_) ?_
    · refine opLeaves_ev HF rfl fun ev zc zg zf zt => ?_
      have t5 : ev (.tmp 5) = u 0 := zt 5
      clear zt
      have h0 : u 0 = _ := hd 0 (by kernel_rfl)
      have q := (A0.ext hW A0.lt).cell 1
      simp only [List.getElem?_cons_zero, List.getElem?_cons_succ] at q
      exact ev_val (v := .int .i64 cap) (by go_simp) rfl
    refine locals_cons (fun u W hW hd => ?_) ?_
    · refine opLeaves_ev HF rfl fun ev zc zg zf zt => ?_
      have t6 : ev (.tmp 6) = u 1 := zt 6
      clear zt
      have h1 : u 1 = _ := hd 1 (by kernel_rfl)
      exact ev_call (f := 73) (args := #[.int .i64 cap]) (by go_simp) ((cU.out cap W).mono (by rintro e9 W9 ⟨rfl, h9⟩; exact ⟨_, rfl, h9, rfl⟩))
    refine locals_cons (fun u W hW hd => ?_) ?_
    · refine opLeaves_ev HF rfl fun ev zc zg zf zt => ?_
      have t2 : ev (.tmp 2) = .pointer (some ⟨w.heap.size, 0, none⟩) := zt 2
      clear zt
      exact ev_val (v := .pointer (some ⟨w.heap.size, 2, none⟩)) (by go_simp) rfl
    refine locals_cons (fun u W hW hd => ?_) ?_
    · refine opLeaves_ev HF rfl fun ev zc zg zf zt => ?_
      have t8 : ev (.tmp 8) = u 3 := zt 8
      clear zt
      have h3 : u 3 = _ := hd 3 (by kernel_rfl)
      have q := (A0.ext hW A0.lt).cell 2
      simp only [List.getElem?_cons_zero, List.getElem?_cons_succ] at q
      exact ev_val (v := .int .i64 fill) (by go_simp) rfl
    refine locals_cons (fun u W hW hd => ?_) ?_
    · refine opLeaves_ev HF rfl fun ev zc zg zf zt => ?_
      have t9 : ev (.tmp 9) = u 4 := zt 9
      clear zt
      have h4 : u 4 = _ := hd 4 (by kernel_rfl)
      exact ev_call (f := 73) (args := #[.int .i64 fill]) (by go_simp) ((cU.out fill W).mono (by rintro e9 W9 ⟨rfl, h9⟩; exact ⟨_, rfl, h9, rfl⟩))
    refine locals_cons (fun u W hW hd => ?_) ?_
    · refine opLeaves_ev HF rfl fun ev zc zg zf zt => ?_
      have t1 : ev (.tmp 1) = .int .i64 ticks := zt 1
      clear zt
      exact ev_val (v := .int .i64 ticks) (by go_simp) rfl
    refine locals_cons (fun u W hW hd => ?_) ?_
    · refine opLeaves_ev HF rfl fun ev zc zg zf zt => ?_
      have t11 : ev (.tmp 11) = u 6 := zt 11
      clear zt
      have h6 : u 6 = _ := hd 6 (by kernel_rfl)
      exact ev_call (f := 73) (args := #[.int .i64 ticks]) (by go_simp) ((cU.out ticks W).mono (by rintro e9 W9 ⟨rfl, h9⟩; exact ⟨_, rfl, h9, rfl⟩))
    refine locals_cons (fun u W hW hd => ?_) ?_
    · refine opLeaves_ev HF rfl fun ev zc zg zf zt => ?_
      have t10 : ev (.tmp 10) = u 5 := zt 10
      have t12 : ev (.tmp 12) = u 7 := zt 12
      clear zt
      have h5 : u 5 = _ := hd 5 (by kernel_rfl)
      have h7 : u 7 = _ := hd 7 (by kernel_rfl)
      exact ev_call (f := 98) (args := #[.int .i64 fill, .int .i64 ticks]) (by go_simp) ((cM.out W).mono (by rintro e9 W9 ⟨rfl, h9⟩; exact ⟨_, rfl, h9, rfl⟩))
    refine locals_cons (fun u W hW hd => ?_) ?_
    · refine opLeaves_ev HF rfl fun ev zc zg zf zt => ?_
      have t7 : ev (.tmp 7) = u 2 := zt 7
      have t13 : ev (.tmp 13) = u 8 := zt 13
      clear zt
      have h2 : u 2 = _ := hd 2 (by kernel_rfl)
      have h8 : u 8 = _ := hd 8 (by kernel_rfl)
      exact ev_call (f := 99) (args := #[.int .i64 cap, .int .i64 m]) (by go_simp) ((cA.out W).mono (by rintro e9 W9 ⟨rfl, h9⟩; exact ⟨_, rfl, h9, rfl⟩))
    refine locals_cons (fun u W hW hd => ?_) locals_nil
    · refine opLeaves_ev HF rfl fun ev zc zg zf zt => ?_
      have t14 : ev (.tmp 14) = u 9 := zt 14
      clear zt
      have h9 : u 9 = _ := hd 9 (by kernel_rfl)
      exact ev_val (v := .int .i64 r) (by go_simp) rfl
  · intro u W4 hW hV
    have h10 : u 10 = .int .i64 r := hV 10 (by decide)
    have F4 := E0.tr hW
    clear hV hW A0 E0
    go_simp
    go_wp2
    go_ret
    exact ⟨rfl, F4⟩
theorem blocks_one (n : Nat) (hn : n ≤ 102) (w : World) : Calls Tryz.prog 102 #[.int .i64 n] w fun e w' => e = .returned (.int .i64 1) ∧ Ext w w' := by
  have g1 : ¬ 65536 < n := by omega
  go_enter Tryz.func102, Tryz.ntmps102
  go_wp2
  go_ret
  exact ⟨rfl, Ext.rfl' _⟩
end Go.Proofs.YtejhiekikblbiaaGreatDoor

namespace Go.Proofs.YtejhiekikblbiaaGreatDoor
open Go.RowKit

theorem from_zero (w : World) : Calls Tryz.prog 144 #[.int .i64 0, .int .i64 0] w fun e w' => e = .returned (.bool true) ∧ Ext w w' := by
  go_enter Tryz.func144, Tryz.ntmps144
  go_wp2
  go_ret
  exact ⟨rfl, Ext.rfl' _⟩
theorem rises_none (f : Value) (w : World) : Calls Tryz.prog 146 #[.slice none 0 0, f] w fun e w' => e = .returned (.bool true) ∧ Ext w w' := by
  go_enter Tryz.func146, Tryz.ntmps146
  go_wp2_with fail
  go_loopw [5] (fun i wr => i = .int .i64 1 ∧ wr = w) (fun _ _ => 0)
  case atStart => exact ⟨rfl, rfl⟩
  case round =>
    obtain ⟨rfl, rfl⟩ := hrel
    go_wp2
    go_ret
    exact ⟨rfl, Ext.rfl' _⟩
set_option maxRecDepth 100000 in
theorem right_zero (w : World) : Calls Tryz.prog 127 #[.agg #[.slice none 0 0, .int .i64 0]] w fun e w' => e = .returned (.bool true) ∧ Ext w w' := by
  obtain ⟨W, hW, E0, A0⟩ : ∃ W, w.alloc (.cells #[.slice none 0 0, .int .i64 0] 97) = W ∧ Ext w W ∧ Arr W w.heap.size 97 [.slice none 0 0, .int .i64 0] := ⟨_, rfl, (Ext.rfl' w).al _, Arr.new w _ [.slice none 0 0, .int .i64 0]⟩
  have HW := Kp.mk hW
  have a0 := A0.cell 0; have a1 := A0.cell 1
  simp only [List.getElem?_cons_zero, List.getElem?_cons_succ] at a0 a1
  clear hW
  go_enter Tryz.func127, Tryz.ntmps127
  go_upto_region 1 with fail
  rw [HW.out]
  clear HW
  go_wp2_with fail
  refine (from_zero _).mono ?_
  rintro e w1 ⟨rfl, E1⟩
  have A1 := A0.ext E1 A0.lt
  have F1 := E0.tr E1
  clear A0 E0 E1 a0 a1
  have a0 := A1.cell 0; have a1 := A1.cell 1
  simp only [List.getElem?_cons_zero, List.getElem?_cons_succ] at a0 a1
  go_wp2_with fail
  go_loopw [18] (fun i wr => i = .int .i64 0 ∧ wr = w1) (fun _ _ => 0)
  case atStart => exact ⟨rfl, rfl⟩
  case round =>
    obtain ⟨rfl, rfl⟩ := hrel
    go_wp2_with fail
    refine (rises_none _ _).mono ?_
    rintro e w2 ⟨rfl, E2⟩
    go_wp2
    go_ret
    exact ⟨rfl, F1.tr E2⟩

/-- The one change that makes the state. -/
def evV : Value := .agg #[.int .i64 4, .string ⟨#[]⟩, .int .i64 0, .int .i64 0, .string ⟨#[]⟩]
def evC : List Value := [.int .i64 4, .string ⟨#[]⟩, .int .i64 0, .int .i64 0, .string ⟨#[]⟩]
set_option maxRecDepth 100000 in
theorem Tryz.elemEvt : Elem Tryz.prog 135 168 (.agg #[.int .i64 0, .string ⟨#[]⟩, .int .i64 0, .int .i64 0, .string ⟨#[]⟩]) 5 56 :=
  ⟨Tryz.underlying135, info_parts (by kernel_rfl), rfl, by decide⟩
theorem oneCell_ev : ∀ u ∈ evC, u.oneCell' = true := by
  intro u hu
  simp [evC] at hu
  rcases hu with rfl | rfl | rfl | rfl <;> rfl
set_option maxRecDepth 100000 in
theorem image_zero (w : World) : Calls Tryz.prog 100 #[.agg #[.slice none 0 0, .int .i64 0]] w fun e w' => ∃ v, e = .returned v ∧ w'.ownsRow w.heap.size 168 5 v 1 evC ∧ Ext w w' := by
  obtain ⟨W, hW, E0, A0⟩ : ∃ W, w.alloc (.cells #[.slice none 0 0, .int .i64 0] 97) = W ∧ Ext w W ∧ Arr W w.heap.size 97 [.slice none 0 0, .int .i64 0] := ⟨_, rfl, (Ext.rfl' w).al _, Arr.new w _ [.slice none 0 0, .int .i64 0]⟩
  have HW := Kp.mk hW
  have a0 := A0.cell 0; have a1 := A0.cell 1
  simp only [List.getElem?_cons_zero, List.getElem?_cons_succ] at a0 a1
  clear hW
  go_enter Tryz.func100, Tryz.ntmps100
  go_upto_region 1 with fail
  rw [HW.out]
  clear HW
  go_wp2_with fail
  refine (right_zero _).mono ?_
  rintro e w1 ⟨rfl, E1⟩
  have A1 := A0.ext E1 A0.lt
  have F1 := E0.tr E1
  clear A0 E0 E1 a0 a1
  have a0 := A1.cell 0; have a1 := A1.cell 1
  simp only [List.getElem?_cons_zero, List.getElem?_cons_succ] at a0 a1
  go_wp2_with fail
  go_loopw [14, 3] (fun i o wr => i = .int .i64 0 ∧ o = .slice none 0 0 ∧ wr = w1) (fun _ _ _ => 0)
  case atStart => exact ⟨rfl, rfl, rfl⟩
  case round =>
    obtain ⟨rfl, rfl, rfl⟩ := hrel
    have hsz := F1.size
    go_wp2_with (at_builtin; refine wpl_app Tryz.elemEvt rfl _ _ rfl (World.ownsRow_nil _ w.heap.size _ _) 1 rfl rfl rfl oneCell_ev (by omega) (by omega) hsz ?_; intro v9 w9 own9 hg9)
    have F9 := F1.own hg9 (World.ownsRow_nil _ w.heap.size 168 5) (Nat.le_refl _)
    clear hg9
    exact bodyPost_ret (results_tmp rfl _ _ _) rfl ⟨v9, rfl, own_eq own9 rfl rfl, F9⟩
set_option maxRecDepth 100000 in
theorem form_zero (w : World) : Calls Tryz.prog 148 #[evV] w fun e w' => e = .returned (.bool true) ∧ Ext w w' := by
  obtain ⟨W, hW, E0, A0⟩ : ∃ W, w.alloc (.cells #[.int .i64 4, .string ⟨#[]⟩, .int .i64 0, .int .i64 0, .string ⟨#[]⟩] 168) = W ∧ Ext w W ∧ Arr W w.heap.size 168 evC := ⟨_, rfl, (Ext.rfl' w).al _, Arr.new w _ evC⟩
  have HW := Kp.mk hW
  have a0 := A0.cell 0; have a1 := A0.cell 1; have a2 := A0.cell 2; have a3 := A0.cell 3; have a4 := A0.cell 4
  simp only [evC, List.getElem?_cons_zero, List.getElem?_cons_succ] at a0 a1 a2 a3 a4
  clear hW
  unfold evV
  go_enter Tryz.func148, Tryz.ntmps148
  go_upto_region 1 with fail
  rw [HW.out]
  clear HW
  go_wp2_with fail
  refine (from_zero _).mono ?_
  rintro e w1 ⟨rfl, E1⟩
  have A1 := A0.ext E1 A0.lt
  have F1 := E0.tr E1
  clear A0 E0 E1 a0 a1 a2 a3 a4
  have a4 := A1.cell 4
  simp only [evC, List.getElem?_cons_zero, List.getElem?_cons_succ] at a4
  go_wp2
  go_ret
  exact ⟨rfl, F1⟩

theorem join_nil (xs : List (List UInt8)) : Lib.join xs [] = xs.flatten := by
  unfold Lib.join
  induction xs with
  | nil => rfl
  | cons a l ih =>
    cases l with
    | nil => simp
    | cons b l => simp [List.intercalate, List.intersperse] at ih ⊢; rw [ih]
def recL : List UInt8 := [4, 0, 0, 0, 0]
set_option maxRecDepth 100000 in
theorem joined_any (b c : Nat) (xs : List (List UInt8)) (w : World) (hcells : ∀ (j : Nat) x, xs[j]? = some x → w.cell? ⟨b, j, none⟩ = some (.string (ofL x))) (hb : b < w.heap.size) (hc : xs.length ≤ c) (hl : xs.length ≤ 1000) (hlen : xs.flatten.length ≤ 1000000) :
    Calls Tryz.prog 129 #[.slice (some ⟨b, 0, none⟩) xs.length c] w fun e w' => e = .returned (.string (ofL xs.flatten)) ∧ Ext w w' := by
  have hmap : (xs.map ofL).map (·.data.toList) = xs := by
    rw [List.map_map]
    exact (List.map_congr_left (fun x _ => toL_ofL x)).trans (List.map_id xs)
  have hj : Lib.join ((xs.map ofL).map (·.data.toList)) (⟨#[]⟩ : ByteArray).data.toList = xs.flatten := by rw [hmap]; exact join_nil xs
  have cJ := Tryz.strings_Join b 0 c (xs.map ofL) ⟨#[]⟩ w (by
    intro j x hx
    rw [List.getElem?_map] at hx
    cases h : xs[j]? with
    | none => rw [h] at hx; cases hx
    | some y =>
      rw [h] at hx
      rw [Nat.zero_add, hcells j y h]
      exact congrArg (fun z => some (Value.string z)) (Option.some.inj hx)) hb (by rw [List.length_map]; omega) (by rw [List.length_map]; exact hc) (by rw [hj]; omega)
  rw [hj, List.length_map] at cJ
  replace cJ := Kp.mk cJ
  clear hmap hj hcells
  go_enter Tryz.func129, Tryz.ntmps129
  go_wp2_with fail
  refine cJ.out.mono ?_
  rintro e w1 ⟨rfl, h1⟩
  go_wp2
  exact bodyPost_ret (results_tmp rfl _ _ _) rfl ⟨rfl, h1⟩
end Go.Proofs.YtejhiekikblbiaaGreatDoor

namespace Go.Proofs.YtejhiekikblbiaaGreatDoor
open Go.RowKit

set_option maxRecDepth 100000 in
set_option maxHeartbeats 1000000 in
theorem rput_zero (w : World) : Calls Tryz.prog 128 #[evV] w fun e w' => e = .returned (.tuple #[.string (ofL recL), .int .i64 0]) ∧ Ext w w' := by
  obtain ⟨W, hW, E0, A0⟩ : ∃ W, w.alloc (.cells #[.int .i64 4, .string ⟨#[]⟩, .int .i64 0, .int .i64 0, .string ⟨#[]⟩] 168) = W ∧ Ext w W ∧ Arr W w.heap.size 168 evC := ⟨_, rfl, (Ext.rfl' w).al _, Arr.new w _ evC⟩
  have HW := Kp.mk hW
  have a0 := A0.cell 0; have a1 := A0.cell 1; have a2 := A0.cell 2; have a3 := A0.cell 3; have a4 := A0.cell 4
  simp only [evC, List.getElem?_cons_zero, List.getElem?_cons_succ] at a0 a1 a2 a3 a4
  have cF := form_zero W
  have cT := Kp.mk (show ∀ W : World, Calls Tryz.prog 69 #[.string ⟨#[]⟩] W fun e w' => e = .returned (.string (ofL [0])) ∧ Ext W w' from fun W => by
    have h := ftext_any ⟨#[]⟩ W (by decide)
    exact h)
  have cN := Kp.mk (show ∀ W : World, Calls Tryz.prog 70 #[.int .u64 0] W fun e w' => e = .returned (.string (ofL [0])) ∧ Ext W w' from fun W => by
    have h := fnum_any 0 W (by show _ < _; omega)
    exact h)
  have w8 : IntKind.u8.wrap (4 : Int) = 4 := rfl
  have w64 : IntKind.u64.wrap (0 : Int) = 0 := rfl
  clear hW
  unfold evV at cF ⊢
  replace cF := Kp.mk cF
  go_enter Tryz.func128, Tryz.ntmps128
  go_upto_region 1 with fail
  rw [HW.out]
  clear HW
  go_wp2_with fail
  refine cF.out.mono ?_
  rintro e w1 ⟨rfl, E1⟩
  have A1 := A0.ext E1 A0.lt
  have F1 := E0.tr E1
  clear A0 E0 E1 a0 a1 a2 a3 a4 cF
  go_upto_region 3 with fail
  refine wp_region_locals (fun i v W => match i with
    | 0 => v = .pointer (some ⟨w.heap.size, 0, none⟩)
    | 1 => v = .int .i64 4
    | 2 => v = .int .u8 4
    | 3 => ∃ b, v = .slice (some ⟨b, 0, none⟩) 1 1 ∧ Arr W b 5 [.int .u8 4]
    | 4 => v = .string (ofL [4])
    | 5 => v = .pointer (some ⟨w.heap.size, 1, none⟩)
    | 6 => v = .string ⟨#[]⟩
    | 7 => v = .string (ofL [0])
    | 8 => v = .pointer (some ⟨w.heap.size, 3, none⟩)
    | 9 => v = .int .i64 0
    | 10 => v = .int .u64 0
    | 11 => v = .string (ofL [0])
    | 12 => v = .pointer (some ⟨w.heap.size, 2, none⟩)
    | 13 => v = .int .i64 0
    | 14 => v = .int .u64 0
    | 15 => v = .string (ofL [0])
    | 16 => v = .pointer (some ⟨w.heap.size, 4, none⟩)
    | 17 => v = .string ⟨#[]⟩
    | 18 => v = .string (ofL [0])
    | 19 => ∃ b, v = .slice (some ⟨b, 0, none⟩) 5 5 ∧ Arr W b 9 [.string (ofL [4]), .string (ofL [0]), .string (ofL [0]), .string (ofL [0]), .string (ofL [0])]
    | 20 => v = .string (ofL recL)
    | 21 => v = .string (ofL recL)
    | 22 => v = .int .i64 0
    | _ => True) (by kernel_rfl) (by kernel_rfl) (by kernel_rfl) ?_ ?_ ?_
  · intro i v W1 W2 e1 e2 h
    match i, h with
    | 0, h => exact h
    | 1, h => exact h
    | 2, h => exact h
    | 3, ⟨b, h1, h2⟩ => exact ⟨b, h1, h2.ext e2 h2.lt⟩
    | 4, h => exact h
    | 5, h => exact h
    | 6, h => exact h
    | 7, h => exact h
    | 8, h => exact h
    | 9, h => exact h
    | 10, h => exact h
    | 11, h => exact h
    | 12, h => exact h
    | 13, h => exact h
    | 14, h => exact h
    | 15, h => exact h
    | 16, h => exact h
    | 17, h => exact h
    | 18, h => exact h
    | 19, ⟨b, h1, h2⟩ => exact ⟨b, h1, h2.ext e2 h2.lt⟩
    | 20, h => exact h
    | 21, h => exact h
    | 22, h => exact h
    | (i + 23), h => exact h
  · refine locals_cons (fun u W hW hd => leaves_val rfl (v := .pointer (some ⟨w.heap.size, 0, none⟩)) (by go_simp) rfl) ?_
    refine locals_cons (fun u W hW hd => ?_) ?_
    · have h0 : u 0 = _ := hd 0 (by kernel_rfl)
      have q := (A1.ext hW A1.lt).cell 0
      simp only [evC, List.getElem?_cons_zero, List.getElem?_cons_succ] at q
      exact leaves_val rfl (v := .int .i64 4) (by go_simp) rfl
    refine locals_cons (fun u W hW hd => ?_) ?_
    · have h1 : u 1 = _ := hd 1 (by kernel_rfl)
      exact leaves_val rfl (v := .int .u8 4) (by go_simp) rfl
    refine locals_cons (fun u W hW hd => ?_) ?_
    · have h2 : u 2 = _ := hd 2 (by kernel_rfl)
      exact leaves_new rfl (v := .slice (some ⟨W.heap.size, 0, none⟩) 1 1) (w' := W.alloc (.cells #[.int .u8 4] 5)) (by go_simp) ((Ext.rfl' W).al _) ⟨_, rfl, Arr.new W _ [.int .u8 4]⟩
    refine locals_cons (fun u W hW hd => ?_) ?_
    · have h3 := hd 3 (by kernel_rfl)
      obtain ⟨b, h3, hA⟩ := h3
      have hs := run_str_cells (P := Tryz.prog) W 99 9 5 Tryz.underlying99 Tryz.underlying5 Tryz.underlying9 ⟨b, 0, none⟩ 1 1 [4] rfl (by intro j y hy; rw [WideShapes.add_plain, hA.cell, Nat.zero_add]; exact hy)
      exact leaves_val rfl (v := .string (ofL [4])) (by go_simp) rfl
    refine locals_cons (fun u W hW hd => leaves_val rfl (v := .pointer (some ⟨w.heap.size, 1, none⟩)) (by go_simp) rfl) ?_
    refine locals_cons (fun u W hW hd => ?_) ?_
    · have h5 : u 5 = _ := hd 5 (by kernel_rfl)
      have q := (A1.ext hW A1.lt).cell 1
      simp only [evC, List.getElem?_cons_zero, List.getElem?_cons_succ] at q
      exact leaves_val rfl (v := .string ⟨#[]⟩) (by go_simp) rfl
    refine locals_cons (fun u W hW hd => ?_) ?_
    · have h6 : u 6 = _ := hd 6 (by kernel_rfl)
      exact leaves_call rfl (f := 69) (args := #[.string ⟨#[]⟩]) (by go_simp) ((cT.out W).mono (by rintro e9 W9 ⟨rfl, h9⟩; exact ⟨_, rfl, h9, rfl⟩))
    refine locals_cons (fun u W hW hd => leaves_val rfl (v := .pointer (some ⟨w.heap.size, 3, none⟩)) (by go_simp) rfl) ?_
    refine locals_cons (fun u W hW hd => ?_) ?_
    · have h8 : u 8 = _ := hd 8 (by kernel_rfl)
      have q := (A1.ext hW A1.lt).cell 3
      simp only [evC, List.getElem?_cons_zero, List.getElem?_cons_succ] at q
      exact leaves_val rfl (v := .int .i64 0) (by go_simp) rfl
    refine locals_cons (fun u W hW hd => ?_) ?_
    · have h9 : u 9 = _ := hd 9 (by kernel_rfl)
      exact leaves_val rfl (v := .int .u64 0) (by go_simp) rfl
    refine locals_cons (fun u W hW hd => ?_) ?_
    · have h10 : u 10 = _ := hd 10 (by kernel_rfl)
      exact leaves_call rfl (f := 70) (args := #[.int .u64 0]) (by go_simp) ((cN.out W).mono (by rintro e9 W9 ⟨rfl, h9⟩; exact ⟨_, rfl, h9, rfl⟩))
    refine locals_cons (fun u W hW hd => leaves_val rfl (v := .pointer (some ⟨w.heap.size, 2, none⟩)) (by go_simp) rfl) ?_
    refine locals_cons (fun u W hW hd => ?_) ?_
    · have h12 : u 12 = _ := hd 12 (by kernel_rfl)
      have q := (A1.ext hW A1.lt).cell 2
      simp only [evC, List.getElem?_cons_zero, List.getElem?_cons_succ] at q
      exact leaves_val rfl (v := .int .i64 0) (by go_simp) rfl
    refine locals_cons (fun u W hW hd => ?_) ?_
    · have h13 : u 13 = _ := hd 13 (by kernel_rfl)
      exact leaves_val rfl (v := .int .u64 0) (by go_simp) rfl
    refine locals_cons (fun u W hW hd => ?_) ?_
    · have h14 : u 14 = _ := hd 14 (by kernel_rfl)
      exact leaves_call rfl (f := 70) (args := #[.int .u64 0]) (by go_simp) ((cN.out W).mono (by rintro e9 W9 ⟨rfl, h9⟩; exact ⟨_, rfl, h9, rfl⟩))
    refine locals_cons (fun u W hW hd => leaves_val rfl (v := .pointer (some ⟨w.heap.size, 4, none⟩)) (by go_simp) rfl) ?_
    refine locals_cons (fun u W hW hd => ?_) ?_
    · have h16 : u 16 = _ := hd 16 (by kernel_rfl)
      have q := (A1.ext hW A1.lt).cell 4
      simp only [evC, List.getElem?_cons_zero, List.getElem?_cons_succ] at q
      exact leaves_val rfl (v := .string ⟨#[]⟩) (by go_simp) rfl
    refine locals_cons (fun u W hW hd => ?_) ?_
    · have h17 : u 17 = _ := hd 17 (by kernel_rfl)
      exact leaves_call rfl (f := 69) (args := #[.string ⟨#[]⟩]) (by go_simp) ((cT.out W).mono (by rintro e9 W9 ⟨rfl, h9⟩; exact ⟨_, rfl, h9, rfl⟩))
    refine locals_cons (fun u W hW hd => ?_) ?_
    · have h4 := hd 4 (by kernel_rfl)
      have h7 : u 7 = _ := hd 7 (by kernel_rfl)
      have h11 : u 11 = _ := hd 11 (by kernel_rfl)
      have h15 : u 15 = _ := hd 15 (by kernel_rfl)
      have h18 : u 18 = _ := hd 18 (by kernel_rfl)
      have h4 : u 4 = .string (ofL [4]) := h4
      exact leaves_new rfl (v := .slice (some ⟨W.heap.size, 0, none⟩) 5 5) (w' := W.alloc (.cells #[.string (ofL [4]), .string (ofL [0]), .string (ofL [0]), .string (ofL [0]), .string (ofL [0])] 9)) (by go_simp) ((Ext.rfl' W).al _) ⟨_, rfl, Arr.new W _ [.string (ofL [4]), .string (ofL [0]), .string (ofL [0]), .string (ofL [0]), .string (ofL [0])]⟩
    refine locals_cons (fun u W hW hd => ?_) ?_
    · have h19 := hd 19 (by kernel_rfl)
      obtain ⟨b, h19, hA⟩ := h19
      exact leaves_call rfl (f := 129) (args := #[.slice (some ⟨b, 0, none⟩) 5 5]) (by go_simp) ((joined_any b 5 [[4], [0], [0], [0], [0]] W (by intro j y hy; rw [hA.cell]; match j, hy with | 0, hy => (cases hy; rfl) | 1, hy => (cases hy; rfl) | 2, hy => (cases hy; rfl) | 3, hy => (cases hy; rfl) | 4, hy => (cases hy; rfl)) hA.lt (by decide) (by decide) (by decide)).mono (fun e9 W9 h9 => ⟨_, h9.1, h9.2, rfl⟩))
    refine locals_cons (fun u W hW hd => ?_) ?_
    · have h20 := hd 20 (by kernel_rfl)
      have h20 : u 20 = .string (ofL recL) := h20
      exact leaves_val rfl (v := u 20) (by go_simp) h20
    exact locals_cons (fun u W hW hd => leaves_val rfl (v := .int .i64 0) (by go_simp) rfl) locals_nil
  · intro u W4 hW hV
    have h21 : u 21 = .string (ofL recL) := hV 21 (by decide)
    have h22 : u 22 = .int .i64 0 := hV 22 (by decide)
    have F4 := F1.tr hW
    clear hV hW A1 F1
    go_simp
    go_wp2
    go_ret2
    exact ⟨rfl, F4⟩
end Go.Proofs.YtejhiekikblbiaaGreatDoor

namespace Go.Proofs.YtejhiekikblbiaaGreatDoor
open Go.RowKit

def batL : List UInt8 := [1, 5, 4, 0, 0, 0, 0]
def batP (k : Nat) : List (List UInt8) := [1] :: List.replicate k [5, 4, 0, 0, 0, 0]
set_option maxRecDepth 100000 in
set_option maxHeartbeats 1000000 in
theorem batch_zero (b c : Nat) (w : World) (hc : ∀ j u, evC[j]? = some u → w.cell? ⟨b, j, none⟩ = some u) (hb : b < w.heap.size) :
    Calls Tryz.prog 101 #[.slice (some ⟨b, 0, none⟩) 1 c] w fun e w' => e = .returned (.tuple #[.string (ofL batL), .int .i64 0]) ∧ Ext w w' := by
  have cP := Kp.mk (fun W => rput_zero W)
  have cT := Kp.mk (show ∀ W : World, Calls Tryz.prog 69 #[.string (ofL recL)] W fun e w' => e = .returned (.string (ofL [5, 4, 0, 0, 0, 0])) ∧ Ext W w' from fun W => by
    have h := ftext_any (ofL recL) W (by decide)
    exact h)
  have cN := Kp.mk (show ∀ W : World, Calls Tryz.prog 70 #[.int .u64 1] W fun e w' => e = .returned (.string (ofL [1])) ∧ Ext W w' from fun W => by
    have h := fnum_any 1 W (by show _ < _; omega)
    exact h)
  have w64 : IntKind.u64.wrap (1 : Int) = 1 := rfl
  have HC := Kp.mk (show ∀ W, Ext w W → W.cell? ⟨b, 0, none⟩ = some (.int .i64 4) ∧ W.cell? ⟨b, 1, none⟩ = some (.string ⟨#[]⟩) ∧ W.cell? ⟨b, 2, none⟩ = some (.int .i64 0) ∧ W.cell? ⟨b, 3, none⟩ = some (.int .i64 0) ∧ W.cell? ⟨b, 4, none⟩ = some (.string ⟨#[]⟩) from fun W hW =>
    ⟨((bcell hW).1 b _ hb).trans (hc 0 _ rfl), ((bcell hW).1 b _ hb).trans (hc 1 _ rfl), ((bcell hW).1 b _ hb).trans (hc 2 _ rfl), ((bcell hW).1 b _ hb).trans (hc 3 _ rfl), ((bcell hW).1 b _ hb).trans (hc 4 _ rfl)⟩)
  unfold evV at cP
  clear hc
  go_enter Tryz.func101, Tryz.ntmps101
  go_wp2_with fail
  refine (cN.out _).mono ?_
  rintro e w1 ⟨rfl, E1⟩
  have O1 := World.ownsRow_lit (base := w.heap.size) (size := 1) (e := 9) w1 #[.string (ofL [1])] 1 E1.size (by decide) rfl
  obtain ⟨V, hV, EV⟩ : ∃ V, w1.alloc (.cells #[.string (ofL [1])] 9) = V ∧ Ext w1 V := ⟨_, rfl, (Ext.rfl' w1).al _⟩
  rw [hV] at O1
  have HV := Kp.mk hV
  have F1 := E1.tr EV
  clear hV E1 EV cN
  go_upto_region 4 with fail
  rw [HV.out]
  clear HV
  go_wp2_with fail
  go_loopw [19, 4] (fun i o wr => ∃ k : Nat, k ≤ 1 ∧ i = .int .i64 k ∧ Ext w wr ∧ wr.ownsRow w.heap.size 9 1 o (1 + k) ((batP k).map Str)) (fun i _ _ => 1 - (intOf i).toNat)
  case atStart => exact ⟨0, by omega, rfl, F1, O1⟩
  case round =>
    clear F1 O1
    obtain ⟨k, hk, rfl, hE, hO⟩ := hrel
    by_cases hlt : k < 1
    · obtain rfl : k = 0 := by omega
      obtain ⟨c0, c1, c2, c3, c4⟩ := HC.out _ hE
      obtain ⟨V, hV, EV, DV⟩ : ∃ V, wr.alloc (.cells #[.int .i64 4, .string ⟨#[]⟩, .int .i64 0, .int .i64 0, .string ⟨#[]⟩] 168) = V ∧ Ext wr V ∧ Arr V wr.heap.size 168 evC := ⟨_, rfl, (Ext.rfl' wr).al _, Arr.new wr _ evC⟩
      have HV := Kp.mk hV
      have F2 := hE.tr EV
      have O2 := own_ext hO (fun j _ hj => EV.block j hj)
      clear hV EV hE hO
      go_upto_region 7 with fail
      rw [HV.out]
      clear HV c0 c1 c2 c3 c4
      have q0 := DV.cell 0; have q1 := DV.cell 1; have q2 := DV.cell 2; have q3 := DV.cell 3; have q4 := DV.cell 4
      simp only [evC, List.getElem?_cons_zero, List.getElem?_cons_succ] at q0 q1 q2 q3 q4
      go_wp2_with fail
      refine (cP.out _).mono ?_
      rintro e w3 ⟨rfl, E3⟩
      have F3 := F2.tr E3
      have O3 := own_ext O2 (fun j _ hj => E3.block j hj)
      clear q0 q1 q2 q3 q4 DV F2 O2 E3 cP
      go_wp2_with fail
      refine (cT.out _).mono ?_
      rintro e w4 ⟨rfl, E4⟩
      have F4 := F3.tr E4
      have O4 := own_ext O3 (fun j _ hj => E4.block j hj)
      have hs4 := F4.size
      clear F3 O3 E4 cT
      go_upto_region 11 with (at_builtin; refine wpl_app Tryz.elemStr rfl _ _ rfl O4 1 rfl rfl rfl (by intro u hu; simp at hu; rw [hu]; rfl) (by omega) (by omega) hs4 ?_; intro v9 w9 own9 hg9; have F9 := F4.own hg9 O4 (Nat.le_refl _); clear hg9 O4 F4)
      go_wp2
      go_roundw
      case rel => exact ⟨1, by omega, by go_num, F9, own_eq own9 rfl rfl⟩
      case measure => simp [intOf]
    · obtain rfl : k = 1 := by omega
      obtain ⟨g9, c9, e9⟩ := ownsRow_succ hO
      rw [e9] at hO
      obtain ⟨g, hg, hb1, hb2, hcell⟩ := own_at hO (by omega)
      obtain rfl : g9 = g := by simpa using hg
      have hcap : 1 + 1 ≤ c9 := by
        rcases hO.2 with ⟨h, _⟩ | ⟨g', cap, cur, he, _, _, hn, _⟩
        · cases h
        · cases he; exact hn
      have cJ := joined_any g9 c9 (batP 1) wr (fun j x hx => hcell j (Str x) (by rw [List.getElem?_map, hx]; rfl)) hb2 hcap (by decide) (by decide)
      rw [show (batP 1).flatten = batL from rfl, show (batP 1).length = 1 + 1 from rfl] at cJ
      replace cJ := Kp.mk cJ
      clear hcap hcell hO hg hb1 hb2
      subst e9
      go_wp2_with fail
      refine cJ.out.mono ?_
      rintro e w5 ⟨rfl, E5⟩
      have F5 := hE.tr E5
      clear hE E5 cJ
      go_wp2
      go_ret2
      exact ⟨rfl, F5⟩
set_option maxRecDepth 100000 in
theorem bimage_zero (w : World) : Calls Tryz.prog 65 #[.agg #[.slice none 0 0, .int .i64 0]] w fun e w' => e = .returned (.int .i64 1) ∧ Ext w w' := by
  obtain ⟨W, hW, E0, A0⟩ : ∃ W, w.alloc (.cells #[.slice none 0 0, .int .i64 0] 97) = W ∧ Ext w W ∧ Arr W w.heap.size 97 [.slice none 0 0, .int .i64 0] := ⟨_, rfl, (Ext.rfl' w).al _, Arr.new w _ [.slice none 0 0, .int .i64 0]⟩
  have HW := Kp.mk hW
  have a0 := A0.cell 0; have a1 := A0.cell 1
  simp only [List.getElem?_cons_zero, List.getElem?_cons_succ] at a0 a1
  have zb : (ofL batL).size = 7 := rfl
  have cB := Kp.mk (show ∀ W : World, Calls Tryz.prog 102 #[.int .i64 7] W fun e w' => e = .returned (.int .i64 1) ∧ Ext W w' from fun W => blocks_one 7 (by omega) W)
  clear hW
  go_enter Tryz.func65, Tryz.ntmps65
  go_upto_region 1 with fail
  rw [HW.out]
  clear HW
  go_wp2_with fail
  refine (image_zero _).mono ?_
  rintro e w1 ⟨v, rfl, own1, E1⟩
  have F1 := E0.tr E1
  obtain ⟨g1, c1, e1⟩ := ownsRow_succ own1
  rw [e1] at own1
  obtain ⟨g, hg, hb1, hb2, hcell⟩ := own_at own1 (by omega)
  obtain rfl : g1 = g := by simpa using hg
  have cT := Kp.mk (batch_zero g1 c1 w1 hcell hb2)
  subst e1
  clear own1 hg hb1 hb2 hcell E0 E1 A0 a0 a1
  go_wp2_with fail
  refine cT.out.mono ?_
  rintro e w2 ⟨rfl, E2⟩
  have F2 := F1.tr E2
  clear F1 E2 cT
  go_wp2_with fail
  refine (cB.out _).mono ?_
  rintro e w3 ⟨rfl, E3⟩
  go_wp2
  go_ret
  exact ⟨rfl, F2.tr E3⟩
set_option maxRecDepth 100000 in
theorem bo_works (w : World) : Calls Tryz.prog 31 #[] w fun e w' => e = .returned (.bool true) ∧ Ext w w' := by
  have c1 := Kp.mk (show ∀ W : World, Calls Tryz.prog 33 #[.int .i64 37] W fun e w' => e = .returned (.int .i64 18) ∧ Ext W w' from fun W => btags_any 37 (by omega) W)
  have c2 := Kp.mk (show ∀ W : World, Calls Tryz.prog 63 #[.int .i64 3] W fun e w' => e = .returned (.int .i64 15) ∧ Ext W w' from fun W => automata_any 3 (by omega) W)
  have c3 := Kp.mk (show ∀ W : World, Calls Tryz.prog 64 #[.agg #[.string ⟨#[]⟩, .int .i64 3, .int .i64 2], .int .i64 4] W fun e w' => e = .returned (.int .i64 11) ∧ Ext W w' from fun W => window_any (.string ⟨#[]⟩) 3 2 4 (by omega) (by omega) (by omega) W)
  have c4 := Kp.mk (fun W => bimage_zero W)
  go_enter Tryz.func31, Tryz.ntmps31
  go_wp2_with fail
  refine (c1.out _).mono ?_
  rintro e w1 ⟨rfl, E1⟩
  go_wp2_with fail
  refine (c2.out _).mono ?_
  rintro e w2 ⟨rfl, E2⟩
  have F2 := E1.tr E2
  clear E1 E2 c1 c2
  go_wp2_with fail
  refine (c3.out _).mono ?_
  rintro e w3 ⟨rfl, E3⟩
  have F3 := F2.tr E3
  clear F2 E3 c3
  go_wp2_with fail
  refine (c4.out _).mono ?_
  rintro e w4 ⟨rfl, E4⟩
  go_wp2
  go_ret
  exact ⟨rfl, F3.tr E4⟩
end Go.Proofs.YtejhiekikblbiaaGreatDoor
