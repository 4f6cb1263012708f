/-
  porterlaw48.BoundTells: what the law walks. Condition: the numbers are ints.
-/
import Derived.Test.YtmnpbpfeoackiaaBr5
import Derived.Test.YtmnpbpfeoackiaaBr7
import Derived.Test.YtmnpbpfeoackiaaInvG
namespace Go.Proofs.Ytmnpbpfeoackiaa
open Go.RowKit

set_option maxRecDepth 100000 in
set_option maxHeartbeats 4000000 in
theorem boundTells_walk (n : Int) (nm : ByteArray) (c f : Int) (v : Value) (l : List TnA) (ser : Int) (w : World) (hn : n ≤ 9223372036854775807) (hc : c ≤ 9223372036854775807) (hf : f ≤ 9223372036854775807) (H : RdTns w v l) :
    Calls Try.prog 3 #[.int .i64 n, .agg #[.string nm, .int .i64 c, .int .i64 f], .agg #[v, .int .i64 ser]] w fun e w' => e = .returned (.bool true) ∧ Ext w w' := by
  obtain ⟨A, sc, rfl, -, -⟩ := H.cells
  obtain ⟨w0, hw0, E0, C0, S0⟩ : ∃ w0, (w.alloc (.cells #[.string nm, .int .i64 c, .int .i64 f] 23)).alloc (.cells #[.slice A l.length sc, .int .i64 ser] 26) = w0 ∧ Ext w w0 ∧ Arr w0 w.heap.size 23 [.string nm, .int .i64 c, .int .i64 f] ∧ Arr w0 (w.heap.size + 1) 26 [.slice A l.length sc, .int .i64 ser] := by
    refine ⟨_, rfl, ((Ext.rfl' w).al _).al _, (Arr.new w _ [.string nm, .int .i64 c, .int .i64 f]).alloc _, ?_⟩
    have h := Arr.new (w.alloc (.cells #[.string nm, .int .i64 c, .int .i64 f] 23)) 26 [.slice A l.length sc, .int .i64 ser]
    rw [World.size_alloc] at h
    exact h
  have HW0 := Kp.mk hw0
  have cG := Kp.mk (great_any (ser := ser) (H.at E0))
  have cW := Kp.mk (fun W => bo_works W)
  obtain ⟨gb, hgb⟩ : ∃ b, bP (GreatP l) = b := ⟨_, rfl⟩
  rw [hgb] at cG
  have s0 := S0.cell 0; have s1 := S0.cell 1
  simp only [List.getElem?_cons_zero, List.getElem?_cons_succ] at s0 s1
  have HH := Kp.mk (fun W (hW : Ext w W) => H.at hW)
  obtain ⟨k, hk⟩ : ∃ k, l.length = k := ⟨_, rfl⟩
  have HKL := Kp.mk hk
  simp only [hk] at cG s0 S0 hw0 HW0 HH
  rw [hk]
  have HGB := Kp.mk hgb
  have c1 := Kp.mk (fun W => tagsI_any n hn W)
  have c2 := Kp.mk (fun W => automI_any n hn W)
  have c3 := Kp.mk (fun W => rautomI_any n hn W)
  have c4 := Kp.mk (fun W => states_any n hn W)
  have c5 := Kp.mk (fun W => rmul_any (autN n.toNat) 8192 (autN_lt _) (by omega) W)
  have c6 := Kp.mk (fun W => windowI_any (.string nm) c f n hc hf hn W)
  have c7 := Kp.mk (fun W => rwindowI_any (.string nm) c f n hc hf hn W)
  have hmx : max n 0 = (n.toNat : Int) := by omega
  have hq : (n.toNat : Int).tdiv 2 = ((n.toNat / 2 : Nat) : Int) := by rw [Int.tdiv_eq_ediv_of_nonneg (by omega)]; omega
  have hw2 : IntKind.i64.wrap ((n.toNat / 2 : Nat) : Int) = ((n.toNat / 2 : Nat) : Int) := IntWalk.i64_in _ (by omega)
  have HNB := Kp.mk (show n.toNat < 9223372036854775808 by omega)
  have hst : staN n.toNat = min (autN n.toNat * 8192) 9223372036854775807 := rfl
  rw [← hst] at c5
  obtain ⟨m, hm⟩ : ∃ m, n.toNat = m := ⟨_, rfl⟩
  rw [hm] at c1 c2 c3 c4 c5 c6 c7 hmx hq hw2
  obtain ⟨tg, htg⟩ : ∃ t, m / 2 = t := ⟨_, rfl⟩
  obtain ⟨at', hat⟩ : ∃ t, autN m = t := ⟨_, rfl⟩
  obtain ⟨st, hst2⟩ : ∃ t, staN m = t := ⟨_, rfl⟩
  obtain ⟨wn, hwn⟩ : ∃ t, winN c.toNat f.toNat m = t := ⟨_, rfl⟩
  rw [htg] at c1 hq hw2
  rw [hat] at c2 c3 c5
  rw [hst2] at c4 c5
  rw [hwn] at c6 c7
  have HMX := Kp.mk hmx; have HQ := Kp.mk hq; have HW2 := Kp.mk hw2
  clear hw0 hgb H hk hst hm htg hat hst2 hwn hmx hq hw2 hn hc hf
  go_enter Try.func3, Try.ntmps3
  go_upto_region 1 with fail
  rw [HW0.out]
  clear HW0
  go_wp2_with fail
  refine cG.out.mono ?_
  rintro e w1 ⟨rfl, E1⟩
  have C1 := C0.ext E1 C0.lt
  have S1 := S0.ext E1 S0.lt
  have F1 := E0.tr E1
  clear s0 s1 C0 S0 E0 E1 cG
  cases gb with
  | true =>
    go_wp2_with fail
    refine (cW.out _).mono ?_
    rintro e w2 ⟨rfl, E2⟩
    go_wp2
    go_ret
    exact ⟨rfl, F1.tr E2⟩
  | false =>
    have hng : ¬ GreatP l := fun h => by have := HGB.out; rw [bP_yes h] at this; cases this
    have hl20 : l.length ≤ 1000 := by
      rcases Nat.lt_or_ge 20 l.length with h | h
      · exact absurd (.inl h) hng
      · omega
    have hk12 : ∀ t ∈ l, t.keys.length ≤ 1000 ∧ t.name.length ≤ 1000 := fun t ht => by
      obtain ⟨q, hq, hqt⟩ := List.mem_iff_getElem.1 ht
      have h2 : ¬ (12 < t.keys.length ∨ 100 < t.name.length) := fun h => hng (.inr ⟨q, t, by rw [List.getElem?_eq_getElem hq, hqt], h⟩)
      omega
    have c8 := Kp.mk (fun W (hW : Ext w W) => bimage_any (ser := ser) (show RdTns W _ l from HH.out W hW) hl20 (fun t ht => (hk12 t ht).1))
    have c9 := Kp.mk (fun W (hW : Ext w W) => rbimage_any (ser := ser) (show RdTns W _ l from HH.out W hW) hl20 hk12)
    obtain ⟨im, him⟩ : ∃ t, imN l ser = t := ⟨_, rfl⟩
    simp only [him] at c8 c9
    clear him hng hl20 hk12 HH HGB
    go_upto_region 3 with fail
    refine wp_region_localsE (fun i v W => match i with
      | 0 => v = .int .i64 n
      | 1 => v = .int .i64 tg
      | 2 => v = .int .i64 n
      | 3 => v = .int .i64 m
      | 4 => v = .int .i64 tg
      | 5 => v = .bool true
      | 6 => v = .bool true
      | 7 => v = .int .i64 n
      | 8 => v = .int .i64 at'
      | 9 => v = .int .i64 n
      | 10 => v = .int .i64 at'
      | 11 => v = .bool true
      | 12 => v = .bool true
      | 13 => v = .bool true
      | 14 => v = .int .i64 n
      | 15 => v = .int .i64 st
      | 16 => v = .int .i64 n
      | 17 => v = .int .i64 at'
      | 18 => v = .int .i64 st
      | 19 => v = .bool true
      | 20 => v = .bool true
      | 21 => v = .bool true
      | 22 => v = .agg #[.string nm, .int .i64 c, .int .i64 f]
      | 23 => v = .int .i64 n
      | 24 => v = .int .i64 wn
      | 25 => v = .agg #[.string nm, .int .i64 c, .int .i64 f]
      | 26 => v = .int .i64 n
      | 27 => v = .int .i64 wn
      | 28 => v = .bool true
      | 29 => v = .bool true
      | 30 => v = .bool true
      | 31 => v = .agg #[.slice A k sc, .int .i64 ser]
      | 32 => v = .int .i64 im
      | 33 => v = .agg #[.slice A k sc, .int .i64 ser]
      | 34 => v = .int .i64 im
      | 35 => v = .bool true
      | 36 => v = .bool true
      | 37 => v = .bool true
      | 38 => v = .bool true
      | 39 => v = .bool true
      | 40 => v = .bool true
      | _ => True) (by kernel_rfl) (by kernel_rfl) (by kernel_rfl) (by kernel_rfl) ?_ ?_ ?_
    · intro i v W1 W2 e1 e2 h
      match i, h with
      | 0, h => exact h
      | 1, h => exact h
      | 2, h => exact h
      | 3, h => exact h
      | 4, h => exact h
      | 5, h => exact h
      | 6, h => exact h
      | 7, h => exact h
      | 8, h => exact h
      | 9, h => exact h
      | 10, h => exact h
      | 11, h => exact h
      | 12, h => exact h
      | 13, h => exact h
      | 14, h => exact h
      | 15, h => exact h
      | 16, h => exact h
      | 17, h => exact h
      | 18, h => exact h
      | 19, h => exact h
      | 20, h => exact h
      | 21, h => exact h
      | 22, h => exact h
      | 23, h => exact h
      | 24, h => exact h
      | 25, h => exact h
      | 26, h => exact h
      | 27, h => exact h
      | 28, h => exact h
      | 29, h => exact h
      | 30, h => exact h
      | 31, h => exact h
      | 32, h => exact h
      | 33, h => exact h
      | 34, h => exact h
      | 35, h => exact h
      | 36, h => exact h
      | 37, h => exact h
      | 38, h => exact h
      | 39, h => exact h
      | 40, h => exact h
      | (i + 41), h => exact h
    · intro HF
      refine locals_cons (fun u W hW hd => ?_) ?_
      · refine opLeaves_ev HF rfl fun ev zc zg zf zt => ?_
        have t0 : ev (.tmp 0) = .int .i64 n := zt 0
        clear zt
        exact ev_val (v := .int .i64 n) (by go_simp) rfl
      refine locals_cons (fun u W hW hd => ?_) ?_
      · refine opLeaves_ev HF rfl fun ev zc zg zf zt => ?_
        have t10 : ev (.tmp 10) = u 0 := zt 10
        clear zt
        have h0 : u 0 = _ := hd 0 (by kernel_rfl)
        exact ev_call (f := 7) (args := #[.int .i64 n]) (by go_simp) ((c1.out W).mono (by rintro e9 W9 ⟨rfl, h9⟩; exact ⟨_, rfl, h9, rfl⟩))
      refine locals_cons (fun u W hW hd => ?_) ?_
      · refine opLeaves_ev HF rfl fun ev zc zg zf zt => ?_
        have t0 : ev (.tmp 0) = .int .i64 n := zt 0
        clear zt
        exact ev_val (v := .int .i64 n) (by go_simp) rfl
      refine locals_cons (fun u W hW hd => ?_) ?_
      · refine opLeaves_ev HF rfl fun ev zc zg zf zt => ?_
        have t12 : ev (.tmp 12) = u 2 := zt 12
        clear zt
        have h2 : u 2 = _ := hd 2 (by kernel_rfl)
        have hmx := HMX.out
        exact ev_val (v := .int .i64 m) (by go_simp) rfl
      refine locals_cons (fun u W hW hd => ?_) ?_
      · refine opLeaves_ev HF rfl fun ev zc zg zf zt => ?_
        have t13 : ev (.tmp 13) = u 3 := zt 13
        clear zt
        have h3 : u 3 = _ := hd 3 (by kernel_rfl)
        have hq := HQ.out; have hw2 := HW2.out
        exact ev_val (v := .int .i64 tg) (by go_simp) rfl
      refine locals_cons (fun u W hW hd => ?_) ?_
      · refine opLeaves_ev HF rfl fun ev zc zg zf zt => ?_
        have t11 : ev (.tmp 11) = u 1 := zt 11
        have t14 : ev (.tmp 14) = u 4 := zt 14
        clear zt
        have h1 : u 1 = _ := hd 1 (by kernel_rfl)
        have h4 : u 4 = _ := hd 4 (by kernel_rfl)
        exact ev_val (v := .bool true) (by go_simp) rfl
      refine locals_cons (fun u W hW hd => ?_) ?_
      · refine opLeaves_ev HF rfl fun ev zc zg zf zt => ?_
        have t15 : ev (.tmp 15) = u 5 := zt 15
        clear zt
        have h5 : u 5 = _ := hd 5 (by kernel_rfl)
        exact ev_val (v := .bool true) (by go_simp) rfl
      refine locals_cons (fun u W hW hd => ?_) ?_
      · have hG6 : u 6 = _ := hd 6 (by kernel_rfl)
        refine opLeaves_evG HF rfl rfl hG6 fun ev zc zg zf zt => ?_
        have t0 : ev (.tmp 0) = .int .i64 n := zt 0
        clear zt
        have h6 : u 6 = _ := hd 6 (by kernel_rfl)
        exact ev_val (v := .int .i64 n) (by go_simp) rfl
      refine locals_cons (fun u W hW hd => ?_) ?_
      · have hG6 : u 6 = _ := hd 6 (by kernel_rfl)
        refine opLeaves_evG HF rfl rfl hG6 fun ev zc zg zf zt => ?_
        have t17 : ev (.tmp 17) = u 7 := zt 17
        clear zt
        have h6 : u 6 = _ := hd 6 (by kernel_rfl)
        have h7 : u 7 = _ := hd 7 (by kernel_rfl)
        exact ev_call (f := 8) (args := #[.int .i64 n]) (by go_simp) ((c2.out W).mono (by rintro e9 W9 ⟨rfl, h9⟩; exact ⟨_, rfl, h9, rfl⟩))
      refine locals_cons (fun u W hW hd => ?_) ?_
      · have hG6 : u 6 = _ := hd 6 (by kernel_rfl)
        refine opLeaves_evG HF rfl rfl hG6 fun ev zc zg zf zt => ?_
        have t0 : ev (.tmp 0) = .int .i64 n := zt 0
        clear zt
        have h6 : u 6 = _ := hd 6 (by kernel_rfl)
        exact ev_val (v := .int .i64 n) (by go_simp) rfl
      refine locals_cons (fun u W hW hd => ?_) ?_
      · have hG6 : u 6 = _ := hd 6 (by kernel_rfl)
        refine opLeaves_evG HF rfl rfl hG6 fun ev zc zg zf zt => ?_
        have t19 : ev (.tmp 19) = u 9 := zt 19
        clear zt
        have h6 : u 6 = _ := hd 6 (by kernel_rfl)
        have h9 : u 9 = _ := hd 9 (by kernel_rfl)
        exact ev_call (f := 9) (args := #[.int .i64 n]) (by go_simp) ((c3.out W).mono (by rintro e9 W9 ⟨rfl, h9⟩; exact ⟨_, rfl, h9, rfl⟩))
      refine locals_cons (fun u W hW hd => ?_) ?_
      · have hG6 : u 6 = _ := hd 6 (by kernel_rfl)
        refine opLeaves_evG HF rfl rfl hG6 fun ev zc zg zf zt => ?_
        have t18 : ev (.tmp 18) = u 8 := zt 18
        have t20 : ev (.tmp 20) = u 10 := zt 20
        clear zt
        have h6 : u 6 = _ := hd 6 (by kernel_rfl)
        have h8 : u 8 = _ := hd 8 (by kernel_rfl)
        have h10 : u 10 = _ := hd 10 (by kernel_rfl)
        exact ev_val (v := .bool true) (by go_simp) rfl
      refine locals_cons (fun u W hW hd => ?_) ?_
      · refine opLeaves_ev HF rfl fun ev zc zg zf zt => ?_
        have t16 : ev (.tmp 16) = u 6 := zt 16
        have t21 : ev (.tmp 21) = u 11 := zt 21
        clear zt
        have h6 : u 6 = _ := hd 6 (by kernel_rfl)
        have h11 : u 11 = _ := hd 11 (by kernel_rfl)
        exact ev_val (v := .bool true) (by go_simp) rfl
      refine locals_cons (fun u W hW hd => ?_) ?_
      · refine opLeaves_ev HF rfl fun ev zc zg zf zt => ?_
        have t22 : ev (.tmp 22) = u 12 := zt 22
        clear zt
        have h12 : u 12 = _ := hd 12 (by kernel_rfl)
        exact ev_val (v := .bool true) (by go_simp) rfl
      refine locals_cons (fun u W hW hd => ?_) ?_
      · have hG13 : u 13 = _ := hd 13 (by kernel_rfl)
        refine opLeaves_evG HF rfl rfl hG13 fun ev zc zg zf zt => ?_
        have t0 : ev (.tmp 0) = .int .i64 n := zt 0
        clear zt
        have h13 : u 13 = _ := hd 13 (by kernel_rfl)
        exact ev_val (v := .int .i64 n) (by go_simp) rfl
      refine locals_cons (fun u W hW hd => ?_) ?_
      · have hG13 : u 13 = _ := hd 13 (by kernel_rfl)
        refine opLeaves_evG HF rfl rfl hG13 fun ev zc zg zf zt => ?_
        have t24 : ev (.tmp 24) = u 14 := zt 24
        clear zt
        have h13 : u 13 = _ := hd 13 (by kernel_rfl)
        have h14 : u 14 = _ := hd 14 (by kernel_rfl)
        exact ev_call (f := 10) (args := #[.int .i64 n]) (by go_simp) ((c4.out W).mono (by rintro e9 W9 ⟨rfl, h9⟩; exact ⟨_, rfl, h9, rfl⟩))
      refine locals_cons (fun u W hW hd => ?_) ?_
      · have hG13 : u 13 = _ := hd 13 (by kernel_rfl)
        refine opLeaves_evG HF rfl rfl hG13 fun ev zc zg zf zt => ?_
        have t0 : ev (.tmp 0) = .int .i64 n := zt 0
        clear zt
        have h13 : u 13 = _ := hd 13 (by kernel_rfl)
        exact ev_val (v := .int .i64 n) (by go_simp) rfl
      refine locals_cons (fun u W hW hd => ?_) ?_
      · have hG13 : u 13 = _ := hd 13 (by kernel_rfl)
        refine opLeaves_evG HF rfl rfl hG13 fun ev zc zg zf zt => ?_
        have t26 : ev (.tmp 26) = u 16 := zt 26
        clear zt
        have h13 : u 13 = _ := hd 13 (by kernel_rfl)
        have h16 : u 16 = _ := hd 16 (by kernel_rfl)
        exact ev_call (f := 9) (args := #[.int .i64 n]) (by go_simp) ((c3.out W).mono (by rintro e9 W9 ⟨rfl, h9⟩; exact ⟨_, rfl, h9, rfl⟩))
      refine locals_cons (fun u W hW hd => ?_) ?_
      · have hG13 : u 13 = _ := hd 13 (by kernel_rfl)
        refine opLeaves_evG HF rfl rfl hG13 fun ev zc zg zf zt => ?_
        have t27 : ev (.tmp 27) = u 17 := zt 27
        clear zt
        have h13 : u 13 = _ := hd 13 (by kernel_rfl)
        have h17 : u 17 = _ := hd 17 (by kernel_rfl)
        exact ev_call (f := 11) (args := #[.int .i64 at', .int .i64 8192]) (by go_simp) ((c5.out W).mono (by rintro e9 W9 ⟨rfl, h9⟩; exact ⟨_, rfl, h9, rfl⟩))
      refine locals_cons (fun u W hW hd => ?_) ?_
      · have hG13 : u 13 = _ := hd 13 (by kernel_rfl)
        refine opLeaves_evG HF rfl rfl hG13 fun ev zc zg zf zt => ?_
        have t25 : ev (.tmp 25) = u 15 := zt 25
        have t28 : ev (.tmp 28) = u 18 := zt 28
        clear zt
        have h13 : u 13 = _ := hd 13 (by kernel_rfl)
        have h15 : u 15 = _ := hd 15 (by kernel_rfl)
        have h18 : u 18 = _ := hd 18 (by kernel_rfl)
        exact ev_val (v := .bool true) (by go_simp) rfl
      refine locals_cons (fun u W hW hd => ?_) ?_
      · refine opLeaves_ev HF rfl fun ev zc zg zf zt => ?_
        have t23 : ev (.tmp 23) = u 13 := zt 23
        have t29 : ev (.tmp 29) = u 19 := zt 29
        clear zt
        have h13 : u 13 = _ := hd 13 (by kernel_rfl)
        have h19 : u 19 = _ := hd 19 (by kernel_rfl)
        exact ev_val (v := .bool true) (by go_simp) rfl
      refine locals_cons (fun u W hW hd => ?_) ?_
      · refine opLeaves_ev HF rfl fun ev zc zg zf zt => ?_
        have t30 : ev (.tmp 30) = u 20 := zt 30
        clear zt
        have h20 : u 20 = _ := hd 20 (by kernel_rfl)
        exact ev_val (v := .bool true) (by go_simp) rfl
      refine locals_cons (fun u W hW hd => ?_) ?_
      · have hG21 : u 21 = _ := hd 21 (by kernel_rfl)
        refine opLeaves_evG HF rfl rfl hG21 fun ev zc zg zf zt => ?_
        have t4 : ev (.tmp 4) = .pointer (some ⟨w.heap.size, 0, none⟩) := zt 4
        clear zt
        have h21 : u 21 = _ := hd 21 (by kernel_rfl)
        have b0 := (C1.ext hW C1.lt).cell 0; have b1 := (C1.ext hW C1.lt).cell 1; have b2 := (C1.ext hW C1.lt).cell 2
        simp only [List.getElem?_cons_zero, List.getElem?_cons_succ] at b0 b1 b2
        exact ev_val (v := .agg #[.string nm, .int .i64 c, .int .i64 f]) (by go_simp) rfl
      refine locals_cons (fun u W hW hd => ?_) ?_
      · have hG21 : u 21 = _ := hd 21 (by kernel_rfl)
        refine opLeaves_evG HF rfl rfl hG21 fun ev zc zg zf zt => ?_
        have t0 : ev (.tmp 0) = .int .i64 n := zt 0
        clear zt
        have h21 : u 21 = _ := hd 21 (by kernel_rfl)
        exact ev_val (v := .int .i64 n) (by go_simp) rfl
      refine locals_cons (fun u W hW hd => ?_) ?_
      · have hG21 : u 21 = _ := hd 21 (by kernel_rfl)
        refine opLeaves_evG HF rfl rfl hG21 fun ev zc zg zf zt => ?_
        have t32 : ev (.tmp 32) = u 22 := zt 32
        have t33 : ev (.tmp 33) = u 23 := zt 33
        clear zt
        have h21 : u 21 = _ := hd 21 (by kernel_rfl)
        have h22 : u 22 = _ := hd 22 (by kernel_rfl)
        have h23 : u 23 = _ := hd 23 (by kernel_rfl)
        exact ev_call (f := 12) (args := #[.agg #[.string nm, .int .i64 c, .int .i64 f], .int .i64 n]) (by go_simp) ((c6.out W).mono (by rintro e9 W9 ⟨rfl, h9⟩; exact ⟨_, rfl, h9, rfl⟩))
      refine locals_cons (fun u W hW hd => ?_) ?_
      · have hG21 : u 21 = _ := hd 21 (by kernel_rfl)
        refine opLeaves_evG HF rfl rfl hG21 fun ev zc zg zf zt => ?_
        have t4 : ev (.tmp 4) = .pointer (some ⟨w.heap.size, 0, none⟩) := zt 4
        clear zt
        have h21 : u 21 = _ := hd 21 (by kernel_rfl)
        have b0 := (C1.ext hW C1.lt).cell 0; have b1 := (C1.ext hW C1.lt).cell 1; have b2 := (C1.ext hW C1.lt).cell 2
        simp only [List.getElem?_cons_zero, List.getElem?_cons_succ] at b0 b1 b2
        exact ev_val (v := .agg #[.string nm, .int .i64 c, .int .i64 f]) (by go_simp) rfl
      refine locals_cons (fun u W hW hd => ?_) ?_
      · have hG21 : u 21 = _ := hd 21 (by kernel_rfl)
        refine opLeaves_evG HF rfl rfl hG21 fun ev zc zg zf zt => ?_
        have t0 : ev (.tmp 0) = .int .i64 n := zt 0
        clear zt
        have h21 : u 21 = _ := hd 21 (by kernel_rfl)
        exact ev_val (v := .int .i64 n) (by go_simp) rfl
      refine locals_cons (fun u W hW hd => ?_) ?_
      · have hG21 : u 21 = _ := hd 21 (by kernel_rfl)
        refine opLeaves_evG HF rfl rfl hG21 fun ev zc zg zf zt => ?_
        have t35 : ev (.tmp 35) = u 25 := zt 35
        have t36 : ev (.tmp 36) = u 26 := zt 36
        clear zt
        have h21 : u 21 = _ := hd 21 (by kernel_rfl)
        have h25 : u 25 = _ := hd 25 (by kernel_rfl)
        have h26 : u 26 = _ := hd 26 (by kernel_rfl)
        exact ev_call (f := 13) (args := #[.agg #[.string nm, .int .i64 c, .int .i64 f], .int .i64 n]) (by go_simp) ((c7.out W).mono (by rintro e9 W9 ⟨rfl, h9⟩; exact ⟨_, rfl, h9, rfl⟩))
      refine locals_cons (fun u W hW hd => ?_) ?_
      · have hG21 : u 21 = _ := hd 21 (by kernel_rfl)
        refine opLeaves_evG HF rfl rfl hG21 fun ev zc zg zf zt => ?_
        have t34 : ev (.tmp 34) = u 24 := zt 34
        have t37 : ev (.tmp 37) = u 27 := zt 37
        clear zt
        have h21 : u 21 = _ := hd 21 (by kernel_rfl)
        have h24 : u 24 = _ := hd 24 (by kernel_rfl)
        have h27 : u 27 = _ := hd 27 (by kernel_rfl)
        exact ev_val (v := .bool true) (by go_simp) rfl
      refine locals_cons (fun u W hW hd => ?_) ?_
      · refine opLeaves_ev HF rfl fun ev zc zg zf zt => ?_
        have t31 : ev (.tmp 31) = u 21 := zt 31
        have t38 : ev (.tmp 38) = u 28 := zt 38
        clear zt
        have h21 : u 21 = _ := hd 21 (by kernel_rfl)
        have h28 : u 28 = _ := hd 28 (by kernel_rfl)
        exact ev_val (v := .bool true) (by go_simp) rfl
      refine locals_cons (fun u W hW hd => ?_) ?_
      · refine opLeaves_ev HF rfl fun ev zc zg zf zt => ?_
        have t39 : ev (.tmp 39) = u 29 := zt 39
        clear zt
        have h29 : u 29 = _ := hd 29 (by kernel_rfl)
        exact ev_val (v := .bool true) (by go_simp) rfl
      refine locals_cons (fun u W hW hd => ?_) ?_
      · have hG30 : u 30 = _ := hd 30 (by kernel_rfl)
        refine opLeaves_evG HF rfl rfl hG30 fun ev zc zg zf zt => ?_
        have t5 : ev (.tmp 5) = .pointer (some ⟨w.heap.size + 1, 0, none⟩) := zt 5
        clear zt
        have h30 : u 30 = _ := hd 30 (by kernel_rfl)
        have b0 := (S1.ext hW S1.lt).cell 0; have b1 := (S1.ext hW S1.lt).cell 1
        simp only [List.getElem?_cons_zero, List.getElem?_cons_succ] at b0 b1
        exact ev_val (v := .agg #[.slice A k sc, .int .i64 ser]) (by go_simp) rfl
      refine locals_cons (fun u W hW hd => ?_) ?_
      · have hG30 : u 30 = _ := hd 30 (by kernel_rfl)
        refine opLeaves_evG HF rfl rfl hG30 fun ev zc zg zf zt => ?_
        have t41 : ev (.tmp 41) = u 31 := zt 41
        clear zt
        have h30 : u 30 = _ := hd 30 (by kernel_rfl)
        have h31 : u 31 = _ := hd 31 (by kernel_rfl)
        exact ev_call (f := 14) (args := #[.agg #[.slice A k sc, .int .i64 ser]]) (by go_simp) ((c8.out W (F1.tr hW)).mono (by rintro e9 W9 ⟨rfl, h9⟩; exact ⟨_, rfl, h9, rfl⟩))
      refine locals_cons (fun u W hW hd => ?_) ?_
      · have hG30 : u 30 = _ := hd 30 (by kernel_rfl)
        refine opLeaves_evG HF rfl rfl hG30 fun ev zc zg zf zt => ?_
        have t5 : ev (.tmp 5) = .pointer (some ⟨w.heap.size + 1, 0, none⟩) := zt 5
        clear zt
        have h30 : u 30 = _ := hd 30 (by kernel_rfl)
        have b0 := (S1.ext hW S1.lt).cell 0; have b1 := (S1.ext hW S1.lt).cell 1
        simp only [List.getElem?_cons_zero, List.getElem?_cons_succ] at b0 b1
        exact ev_val (v := .agg #[.slice A k sc, .int .i64 ser]) (by go_simp) rfl
      refine locals_cons (fun u W hW hd => ?_) ?_
      · have hG30 : u 30 = _ := hd 30 (by kernel_rfl)
        refine opLeaves_evG HF rfl rfl hG30 fun ev zc zg zf zt => ?_
        have t43 : ev (.tmp 43) = u 33 := zt 43
        clear zt
        have h30 : u 30 = _ := hd 30 (by kernel_rfl)
        have h33 : u 33 = _ := hd 33 (by kernel_rfl)
        exact ev_call (f := 15) (args := #[.agg #[.slice A k sc, .int .i64 ser]]) (by go_simp) ((c9.out W (F1.tr hW)).mono (by rintro e9 W9 ⟨rfl, h9⟩; exact ⟨_, rfl, h9, rfl⟩))
      refine locals_cons (fun u W hW hd => ?_) ?_
      · have hG30 : u 30 = _ := hd 30 (by kernel_rfl)
        refine opLeaves_evG HF rfl rfl hG30 fun ev zc zg zf zt => ?_
        have t42 : ev (.tmp 42) = u 32 := zt 42
        have t44 : ev (.tmp 44) = u 34 := zt 44
        clear zt
        have h30 : u 30 = _ := hd 30 (by kernel_rfl)
        have h32 : u 32 = _ := hd 32 (by kernel_rfl)
        have h34 : u 34 = _ := hd 34 (by kernel_rfl)
        exact ev_val (v := .bool true) (by go_simp) rfl
      refine locals_cons (fun u W hW hd => ?_) ?_
      · refine opLeaves_ev HF rfl fun ev zc zg zf zt => ?_
        have t40 : ev (.tmp 40) = u 30 := zt 40
        have t45 : ev (.tmp 45) = u 35 := zt 45
        clear zt
        have h30 : u 30 = _ := hd 30 (by kernel_rfl)
        have h35 : u 35 = _ := hd 35 (by kernel_rfl)
        exact ev_val (v := .bool true) (by go_simp) rfl
      refine locals_cons (fun u W hW hd => ?_) ?_
      · refine opLeaves_ev HF rfl fun ev zc zg zf zt => ?_
        have t46 : ev (.tmp 46) = u 36 := zt 46
        clear zt
        have h36 : u 36 = _ := hd 36 (by kernel_rfl)
        exact ev_val (v := .bool true) (by go_simp) rfl
      refine locals_cons (fun u W hW hd => ?_) ?_
      · have hG37 : u 37 = _ := hd 37 (by kernel_rfl)
        refine opLeaves_evG HF rfl rfl hG37 fun ev zc zg zf zt => ?_
        clear zt
        have h37 : u 37 = _ := hd 37 (by kernel_rfl)
        exact ev_call (f := 6) (args := #[]) (by go_simp) ((cW.out W).mono (by rintro e9 W9 ⟨rfl, h9⟩; exact ⟨_, rfl, h9, rfl⟩))
      refine locals_cons (fun u W hW hd => ?_) ?_
      · refine opLeaves_ev HF rfl fun ev zc zg zf zt => ?_
        have t47 : ev (.tmp 47) = u 37 := zt 47
        have t48 : ev (.tmp 48) = u 38 := zt 48
        clear zt
        have h37 : u 37 = _ := hd 37 (by kernel_rfl)
        have h38 : u 38 = _ := hd 38 (by kernel_rfl)
        exact ev_val (v := .bool true) (by go_simp) rfl
      refine locals_cons (fun u W hW hd => ?_) locals_nil
      · refine opLeaves_ev HF rfl fun ev zc zg zf zt => ?_
        have t49 : ev (.tmp 49) = u 39 := zt 49
        clear zt
        have h39 : u 39 = _ := hd 39 (by kernel_rfl)
        exact ev_val (v := .bool true) (by go_simp) rfl
    · intro u3 w3 hW3 hV
      have h40 : u3 40 = _ := hV 40 (by decide)
      have F3 := F1.tr hW3
      clear hV
      go_simp
      go_wp2
      go_ret
      exact ⟨rfl, F3⟩
end Go.Proofs.Ytmnpbpfeoackiaa
