/-
  Package bound: numbers: sat's Add and Mul over numbers that are not below zero, up, Tags, Automata, Window; package entry: Blocks of a short text. No condition.
-/
import Derived.Test.YtmnpbpfeoackiaaFldTx
import Derived.Test.YtmnpbpfeoackiaaInvE
import Derived.Test.YtmnpbpfeoackiaaGen
import Derived.Deep.DeepCutAuto
namespace Go.Proofs.Ytmnpbpfeoackiaa
open Go.RowKit

theorem up_any (n : Int) (w : World) : Calls Try.prog 18 #[.int .i64 n] w fun e w' => e = .returned (.int .i64 (max n 0)) ∧ Ext w w' := by
  go_enter Try.func18, Try.ntmps18
  go_wp2
  go_ret
  exact ⟨rfl, Ext.rfl' _⟩
theorem size_any (a : Nat) (ha : a < 9223372036854775808) (w : World) : Calls Try.prog 35 #[.int .i64 a] w fun e w' => e = .returned (.int .u64 a) ∧ Ext w w' := by
  have hu : IntKind.u64.wrap (a : Int) = (a : Int) := U64.wrap (by show _ < _; omega)
  have d1 : decide ((a : Int) < 0) = false := by simp
  go_enter Try.func35, Try.ntmps35
  go_wp2
  go_ret
  exact ⟨rfl, Ext.rfl' _⟩
theorem sadd_any (a b : Nat) (ha : a < 9223372036854775808) (hb : b < 9223372036854775808) (w : World) : Calls Try.prog 20 #[.int .i64 a, .int .i64 b] w fun e w' => e = .returned (.int .i64 (min (a + b) 9223372036854775807 : Nat)) ∧ Ext w w' := by
  have n1 : decide ((a : Int) < 0) = false := by simp
  have n2 : decide ((b : Int) < 0) = false := by simp
  by_cases h : a + b < 9223372036854775808
  · have hw : IntKind.i64.wrap ((a : Int) + (b : Int)) = ((a + b : Nat) : Int) := by rw [IntWalk.i64_in _ (by omega)]; push_cast; rfl
    have hs : decide (((a + b : Nat) : Int) < 0) = false := decide_eq_false (by omega)
    have hr : min (a + b) 9223372036854775807 = a + b := by omega
    rw [hr]
    clear hr
    obtain ⟨s, hse⟩ : ∃ s, a + b = s := ⟨_, rfl⟩
    rw [hse] at hw hs ⊢
    clear hse h
    by_cases ga : 0 < a
    · have p1 : decide ((0 : Int) < (a : Int)) = true := by simp; omega
      by_cases gb : 0 < b
      · have p2 : decide ((0 : Int) < (b : Int)) = true := by simp; omega
        clear ha hb
        go_enter Try.func20, Try.ntmps20
        go_wp2
        go_ret
        exact ⟨rfl, Ext.rfl' _⟩
      · have p2 : decide ((0 : Int) < (b : Int)) = false := by simp; omega
        clear ha hb
        go_enter Try.func20, Try.ntmps20
        go_wp2
        go_ret
        exact ⟨rfl, Ext.rfl' _⟩
    · have p1 : decide ((0 : Int) < (a : Int)) = false := by simp; omega
      clear ha hb
      go_enter Try.func20, Try.ntmps20
      go_wp2
      go_ret
      exact ⟨rfl, Ext.rfl' _⟩
  · have hr : min (a + b) 9223372036854775807 = 9223372036854775807 := by omega
    rw [hr]
    clear hr
    have hw : IntKind.i64.wrap ((a : Int) + (b : Int)) = (a : Int) + (b : Int) - 18446744073709551616 := by rw [IntKind.wrap_i64]; omega
    have hs : decide ((a : Int) + (b : Int) - 18446744073709551616 < 0) = true := decide_eq_true (by omega)
    have p1 : decide ((0 : Int) < (a : Int)) = true := by simp; omega
    have p2 : decide ((0 : Int) < (b : Int)) = true := by simp; omega
    obtain ⟨s, hse⟩ : ∃ s, (a : Int) + (b : Int) - 18446744073709551616 = s := ⟨_, rfl⟩
    rw [hse] at hw hs
    have ga : 0 < a := by omega
    have gb : 0 < b := by omega
    clear hse h ha hb p1 p2
    go_enter Try.func20, Try.ntmps20
    go_wp2
    go_ret
    exact ⟨rfl, Ext.rfl' _⟩
set_option maxRecDepth 100000 in
set_option maxHeartbeats 1000000 in
theorem smul_any (a b : Nat) (ha : a < 9223372036854775808) (hb : b < 9223372036854775808) (w : World) : Calls Try.prog 19 #[.int .i64 a, .int .i64 b] w fun e w' => e = .returned (.int .i64 (min (a * b) 9223372036854775807 : Nat)) ∧ Ext w w' := by
  have n1 : decide ((a : Int) < 0) = false := by simp
  have n2 : decide ((b : Int) < 0) = false := by simp
  have c1 := Kp.mk (fun W => size_any a ha W)
  have c2 := Kp.mk (fun W => size_any b hb W)
  have cM := fun W => Try.bits_Mul64 a b (by omega) (by omega) W
  obtain ⟨p, hp⟩ : ∃ p, a * b = p := ⟨_, rfl⟩
  rw [hp]
  simp only [hp] at cM
  obtain ⟨hi, hhi⟩ : ∃ q, p / 18446744073709551616 = q := ⟨_, rfl⟩
  obtain ⟨lo, hlo⟩ : ∃ q, p % 18446744073709551616 = q := ⟨_, rfl⟩
  simp only [hhi, hlo] at cM
  replace cM := Kp.mk cM
  clear hp
  by_cases h : p < 9223372036854775808
  · have e1 : hi = 0 := by omega
    have e2 : lo = p := by omega
    rw [show min p 9223372036854775807 = p by omega]
    have hw : IntKind.i64.wrap (p : Int) = (p : Int) := IntWalk.i64_in _ (by omega)
    have g2 : decide ((9223372036854775808 : Int) ≤ (p : Int)) = false := decide_eq_false (by omega)
    rw [e1, e2] at cM
    clear e1 e2 hhi hlo h ha hb
    go_enter Try.func19, Try.ntmps19
    go_wp2_with fail
    refine (c1.out _).mono ?_
    rintro e w1 ⟨rfl, E1⟩
    go_wp2_with fail
    refine (c2.out _).mono ?_
    rintro e w2 ⟨rfl, E2⟩
    have F2 := E1.tr E2
    clear E1 E2 c1 c2
    go_wp2_with fail
    refine (cM.out _).mono ?_
    rintro e w3 ⟨rfl, h3⟩
    subst h3
    clear cM
    go_wp2
    go_ret
    exact ⟨rfl, F2⟩
  · have er : ((min p 9223372036854775807 : Nat) : Int) = 9223372036854775807 := by omega
    rw [er]
    by_cases g1 : 0 < hi
    · clear er hhi hlo h ha hb
      go_enter Try.func19, Try.ntmps19
      go_wp2_with fail
      refine (c1.out _).mono ?_
      rintro e w1 ⟨rfl, E1⟩
      go_wp2_with fail
      refine (c2.out _).mono ?_
      rintro e w2 ⟨rfl, E2⟩
      have F2 := E1.tr E2
      clear E1 E2 c1 c2
      go_wp2_with fail
      refine (cM.out _).mono ?_
      rintro e w3 ⟨rfl, h3⟩
      subst h3
      clear cM
      go_wp2
      go_ret
      exact ⟨rfl, F2⟩
    · have g2 : decide ((9223372036854775808 : Int) ≤ (lo : Int)) = true := decide_eq_true (by omega)
      clear er hhi hlo h ha hb
      go_enter Try.func19, Try.ntmps19
      go_wp2_with fail
      refine (c1.out _).mono ?_
      rintro e w1 ⟨rfl, E1⟩
      go_wp2_with fail
      refine (c2.out _).mono ?_
      rintro e w2 ⟨rfl, E2⟩
      have F2 := E1.tr E2
      clear E1 E2 c1 c2
      go_wp2_with fail
      refine (cM.out _).mono ?_
      rintro e w3 ⟨rfl, h3⟩
      subst h3
      clear cM
      go_wp2
      go_ret
      exact ⟨rfl, F2⟩
theorem btags_any (n : Nat) (hn : n < 9223372036854775808) (w : World) : Calls Try.prog 7 #[.int .i64 n] w fun e w' => e = .returned (.int .i64 (n / 2 : Nat)) ∧ Ext w w' := by
  have c := up_any n w
  rw [show max (n : Int) 0 = (n : Int) by omega] at c
  have hq : (n : Int).tdiv 2 = ((n / 2 : Nat) : Int) := by rw [Int.tdiv_eq_ediv_of_nonneg (by omega)]; omega
  have hw : IntKind.i64.wrap ((n / 2 : Nat) : Int) = ((n / 2 : Nat) : Int) := IntWalk.i64_in _ (by omega)
  obtain ⟨q, hqe⟩ : ∃ q, n / 2 = q := ⟨_, rfl⟩
  rw [hqe] at hq hw ⊢
  clear hqe
  go_enter Try.func7, Try.ntmps7
  go_wp2_with fail
  refine c.mono ?_
  rintro e w1 ⟨rfl, E1⟩
  go_wp2
  go_ret
  exact ⟨rfl, E1⟩
theorem automata_any (n : Nat) (hn : n < 9223372036854775000) (w : World) : Calls Try.prog 8 #[.int .i64 n] w fun e w' => e = .returned (.int .i64 (min (n * (n + 2)) 9223372036854775807 : Nat)) ∧ Ext w w' := by
  have c := up_any n w
  rw [show max (n : Int) 0 = (n : Int) by omega] at c
  have c2 := fun W => sadd_any n 2 (by omega) (by omega) W
  rw [show min (n + 2) 9223372036854775807 = n + 2 by omega] at c2
  have c3 := fun W => smul_any n (n + 2) (by omega) (by omega) W
  obtain ⟨m, hm⟩ : ∃ m, n + 2 = m := ⟨_, rfl⟩
  obtain ⟨r, hr⟩ : ∃ r, min (n * m) 9223372036854775807 = r := ⟨_, rfl⟩
  simp only [hm, hr] at c2 c3
  rw [hm, hr]
  replace c2 := Kp.mk c2; replace c3 := Kp.mk c3
  clear hm hr
  go_enter Try.func8, Try.ntmps8
  go_wp2_with fail
  refine c.mono ?_
  rintro e w1 ⟨rfl, E1⟩
  go_wp2_with fail
  refine (c2.out _).mono ?_
  rintro e w2 ⟨rfl, E2⟩
  go_wp2_with fail
  refine (c3.out _).mono ?_
  rintro e w3 ⟨rfl, E3⟩
  go_wp2
  go_ret
  exact ⟨rfl, (E1.tr E2).tr E3⟩
/-- The window's bound. -/
def winN (cap fill ticks : Nat) : Nat := min (cap + min (fill * ticks) 9223372036854775807) 9223372036854775807
theorem window_any (nm : Value) (cap fill ticks : Nat) (hc : cap < 9223372036854775808) (hf : fill < 9223372036854775808) (ht : ticks < 9223372036854775808) (w : World) : Calls Try.prog 12 #[.agg #[nm, .int .i64 cap, .int .i64 fill], .int .i64 ticks] w fun e w' => e = .returned (.int .i64 (winN cap fill ticks)) ∧ Ext w w' := by
  obtain ⟨W, hW, E0, A0⟩ : ∃ W, w.alloc (.cells #[nm, .int .i64 cap, .int .i64 fill] 23) = W ∧ Ext w W ∧ Arr W w.heap.size 23 [nm, .int .i64 cap, .int .i64 fill] := ⟨_, rfl, (Ext.rfl' w).al _, Arr.new w _ [nm, .int .i64 cap, .int .i64 fill]⟩
  have HW := Kp.mk hW
  have cU := Kp.mk (show ∀ (n : Nat) (W : World), Calls Try.prog 18 #[.int .i64 n] W fun e w' => e = .returned (.int .i64 n) ∧ Ext W w' from fun n W => by
    have c := up_any n W
    rw [show max (n : Int) 0 = (n : Int) by omega] at c
    exact c)
  obtain ⟨m, hm⟩ : ∃ m, min (fill * ticks) 9223372036854775807 = m := ⟨_, rfl⟩
  have cM := fun W => smul_any fill ticks hf ht W
  have cA := fun W => sadd_any cap m hc (by omega) W
  obtain ⟨r, hr⟩ : ∃ r, winN cap fill ticks = r := ⟨_, rfl⟩
  rw [hr]
  unfold winN at hr
  rw [hm] at hr
  simp only [hm] at cM
  simp only [hr] at cA
  replace cM := Kp.mk cM; replace cA := Kp.mk cA
  clear hW hm hr
  go_enter Try.func12, Try.ntmps12
  go_upto_region 1 with fail
  rw [HW.out]
  clear HW
  refine wp_region_localsE (fun i v W => match i with
    | 0 => v = .pointer (some ⟨w.heap.size, 1, none⟩)
    | 1 => v = .int .i64 cap
    | 2 => v = .int .i64 cap
    | 3 => v = .pointer (some ⟨w.heap.size, 2, none⟩)
    | 4 => v = .int .i64 fill
    | 5 => v = .int .i64 fill
    | 6 => v = .int .i64 ticks
    | 7 => v = .int .i64 ticks
    | 8 => v = .int .i64 m
    | 9 => v = .int .i64 r
    | 10 => v = .int .i64 r
    | _ => True) (by kernel_rfl) (by kernel_rfl) (by kernel_rfl) (by kernel_rfl) ?_ ?_ ?_
  · intro i v W1 W2 e1 e2 h
    match i, h with
    | 0, h => exact h
    | 1, h => exact h
    | 2, h => exact h
    | 3, h => exact h
    | 4, h => exact h
    | 5, h => exact h
    | 6, h => exact h
    | 7, h => exact h
    | 8, h => exact h
    | 9, h => exact h
    | 10, h => exact h
    | (i + 11), h => exact h
  · intro HF
    refine locals_cons (fun u W hW hd => ?_) ?_
    · refine opLeaves_ev HF rfl fun ev zc zg zf zt => ?_
      have t2 : ev (.tmp 2) = .pointer (some ⟨w.heap.size, 0, none⟩) := zt 2
      clear zt
      exact ev_val (v := .pointer (some ⟨w.heap.size, 1, none⟩)) (by go_simp) rfl
    refine locals_cons (fun u W hW hd => ?_) ?_
    · refine opLeaves_ev HF rfl fun ev zc zg zf zt => ?_
      have t5 : ev (.tmp 5) = u 0 := zt 5
      clear zt
      have h0 : u 0 = _ := hd 0 (by kernel_rfl)
      have q := (A0.ext hW A0.lt).cell 1
      simp only [List.getElem?_cons_zero, List.getElem?_cons_succ] at q
      exact ev_val (v := .int .i64 cap) (by go_simp) rfl
    refine locals_cons (fun u W hW hd => ?_) ?_
    · refine opLeaves_ev HF rfl fun ev zc zg zf zt => ?_
      have t6 : ev (.tmp 6) = u 1 := zt 6
      clear zt
      have h1 : u 1 = _ := hd 1 (by kernel_rfl)
      exact ev_call (f := 18) (args := #[.int .i64 cap]) (by go_simp) ((cU.out cap W).mono (by rintro e9 W9 ⟨rfl, h9⟩; exact ⟨_, rfl, h9, rfl⟩))
    refine locals_cons (fun u W hW hd => ?_) ?_
    · refine opLeaves_ev HF rfl fun ev zc zg zf zt => ?_
      have t2 : ev (.tmp 2) = .pointer (some ⟨w.heap.size, 0, none⟩) := zt 2
      clear zt
      exact ev_val (v := .pointer (some ⟨w.heap.size, 2, none⟩)) (by go_simp) rfl
    refine locals_cons (fun u W hW hd => ?_) ?_
    · refine opLeaves_ev HF rfl fun ev zc zg zf zt => ?_
      have t8 : ev (.tmp 8) = u 3 := zt 8
      clear zt
      have h3 : u 3 = _ := hd 3 (by kernel_rfl)
      have q := (A0.ext hW A0.lt).cell 2
      simp only [List.getElem?_cons_zero, List.getElem?_cons_succ] at q
      exact ev_val (v := .int .i64 fill) (by go_simp) rfl
    refine locals_cons (fun u W hW hd => ?_) ?_
    · refine opLeaves_ev HF rfl fun ev zc zg zf zt => ?_
      have t9 : ev (.tmp 9) = u 4 := zt 9
      clear zt
      have h4 : u 4 = _ := hd 4 (by kernel_rfl)
      exact ev_call (f := 18) (args := #[.int .i64 fill]) (by go_simp) ((cU.out fill W).mono (by rintro e9 W9 ⟨rfl, h9⟩; exact ⟨_, rfl, h9, rfl⟩))
    refine locals_cons (fun u W hW hd => ?_) ?_
    · refine opLeaves_ev HF rfl fun ev zc zg zf zt => ?_
      have t1 : ev (.tmp 1) = .int .i64 ticks := zt 1
      clear zt
      exact ev_val (v := .int .i64 ticks) (by go_simp) rfl
    refine locals_cons (fun u W hW hd => ?_) ?_
    · refine opLeaves_ev HF rfl fun ev zc zg zf zt => ?_
      have t11 : ev (.tmp 11) = u 6 := zt 11
      clear zt
      have h6 : u 6 = _ := hd 6 (by kernel_rfl)
      exact ev_call (f := 18) (args := #[.int .i64 ticks]) (by go_simp) ((cU.out ticks W).mono (by rintro e9 W9 ⟨rfl, h9⟩; exact ⟨_, rfl, h9, rfl⟩))
    refine locals_cons (fun u W hW hd => ?_) ?_
    · refine opLeaves_ev HF rfl fun ev zc zg zf zt => ?_
      have t10 : ev (.tmp 10) = u 5 := zt 10
      have t12 : ev (.tmp 12) = u 7 := zt 12
      clear zt
      have h5 : u 5 = _ := hd 5 (by kernel_rfl)
      have h7 : u 7 = _ := hd 7 (by kernel_rfl)
      exact ev_call (f := 19) (args := #[.int .i64 fill, .int .i64 ticks]) (by go_simp) ((cM.out W).mono (by rintro e9 W9 ⟨rfl, h9⟩; exact ⟨_, rfl, h9, rfl⟩))
    refine locals_cons (fun u W hW hd => ?_) ?_
    · refine opLeaves_ev HF rfl fun ev zc zg zf zt => ?_
      have t7 : ev (.tmp 7) = u 2 := zt 7
      have t13 : ev (.tmp 13) = u 8 := zt 13
      clear zt
      have h2 : u 2 = _ := hd 2 (by kernel_rfl)
      have h8 : u 8 = _ := hd 8 (by kernel_rfl)
      exact ev_call (f := 20) (args := #[.int .i64 cap, .int .i64 m]) (by go_simp) ((cA.out W).mono (by rintro e9 W9 ⟨rfl, h9⟩; exact ⟨_, rfl, h9, rfl⟩))
    refine locals_cons (fun u W hW hd => ?_) locals_nil
    · refine opLeaves_ev HF rfl fun ev zc zg zf zt => ?_
      have t14 : ev (.tmp 14) = u 9 := zt 14
      clear zt
      have h9 : u 9 = _ := hd 9 (by kernel_rfl)
      exact ev_val (v := .int .i64 r) (by go_simp) rfl
  · intro u W4 hW hV
    have h10 : u 10 = .int .i64 r := hV 10 (by decide)
    have F4 := E0.tr hW
    clear hV hW A0 E0
    go_simp
    go_wp2
    go_ret
    exact ⟨rfl, F4⟩
theorem blocks_one (n : Nat) (hn : n ≤ 102) (w : World) : Calls Try.prog 25 #[.int .i64 n] w fun e w' => e = .returned (.int .i64 1) ∧ Ext w w' := by
  have g1 : ¬ 65536 < n := by omega
  go_enter Try.func25, Try.ntmps25
  go_wp2
  go_ret
  exact ⟨rfl, Ext.rfl' _⟩
end Go.Proofs.Ytmnpbpfeoackiaa
