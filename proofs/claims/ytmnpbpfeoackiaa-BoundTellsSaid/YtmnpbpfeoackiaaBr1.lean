/-
  The reference's answer for states: whether one may be. Condition: what is read is in memory.
-/
import Derived.Test.YtmnpbpfeoackiaaBt9
import Derived.Test.YtmnpbpfeoackiaaInvG
namespace Go.Proofs.Ytmnpbpfeoackiaa
open Go.RowKit

theorem in_any (n m : Int) (w : World) : Calls Try.prog 56 #[.int .i64 n, .int .i64 m] w fun e w' => e = .returned (.bool (bP (FromP n m))) ∧ Ext w w' := by
  by_cases h1 : m ≤ n
  · have q1 : decide (m ≤ n) = true := decide_eq_true h1
    by_cases h2 : n ≤ 1099511627776
    · have q2 : decide (n ≤ (1099511627776 : Int)) = true := decide_eq_true h2
      rw [bP_yes (show FromP n m from ⟨h1, h2⟩)]
      go_enter Try.func56, Try.ntmps56
      go_wp2
      go_ret
      exact ⟨rfl, Ext.rfl' _⟩
    · have q2 : decide (n ≤ (1099511627776 : Int)) = false := decide_eq_false h2
      rw [bP_no (fun h : FromP n m => h2 h.2)]
      go_enter Try.func56, Try.ntmps56
      go_wp2
      go_ret
      exact ⟨rfl, Ext.rfl' _⟩
  · have q1 : decide (m ≤ n) = false := decide_eq_false h1
    rw [bP_no (fun h : FromP n m => h1 h.1)]
    go_enter Try.func56, Try.ntmps56
    go_wp2
    go_ret
    exact ⟨rfl, Ext.rfl' _⟩
theorem rwordn_any (n : List UInt8) (w : World) : Calls Try.prog 57 #[.string (ofL n)] w fun e w' => e = .returned (.bool (wordL n)) ∧ Ext w w' := by
  have h := rword_any (ofL n) w
  rw [toL_ofL] at h
  exact h
theorem rcmpL_any (a b : List UInt8) (w : World) (ha : a.length ≤ 1000) (hb : b.length ≤ 1000) : Calls Try.prog 58 #[.string (ofL a), .string (ofL b)] w fun e w' => e = .returned (.int .i64 (cmpL a b)) ∧ Ext w w' := by
  have h := rcompare_any (ofL a) (ofL b) w (by rw [size_ofL]; unfold maxLen; omega) (by rw [size_ofL]; unfold maxLen; omega)
  rw [toL_ofL, toL_ofL] at h
  exact h
set_option maxRecDepth 100000 in
set_option maxHeartbeats 4000000 in
theorem rrightS_any {v : Value} {l : List TnA} {ser : Int} {w : World} (H : RdTns w v l) (hl : l.length ≤ 1000) (hk : ∀ t ∈ l, t.keys.length ≤ 1000 ∧ t.name.length ≤ 1000) : Calls Try.prog 41 #[.agg #[v, .int .i64 ser]] w fun e w' => e = .returned (.bool (bP (RightS l ser))) ∧ Ext w w' := by
  obtain ⟨A, c, rfl, -, -⟩ := H.cells
  obtain ⟨W, hW, E0, A0⟩ : ∃ W, w.alloc (.cells #[.slice A l.length c, .int .i64 ser] 26) = W ∧ Ext w W ∧ Arr W w.heap.size 26 [.slice A l.length c, .int .i64 ser] := ⟨_, rfl, (Ext.rfl' w).al _, Arr.new w _ [.slice A l.length c, .int .i64 ser]⟩
  have HW := Kp.mk hW
  have hcl := Kp.mk (show 0 < l.length → ∃ b off, A = some ⟨b, off, none⟩ ∧ b < w.heap.size ∧ ∀ (k : Nat) (x : TnA), l[k]? = some x → ∀ W', Ext w W' → W'.cell? ⟨b, off + k * 4, none⟩ = some (.string (ofL x.name)) ∧ W'.cell? ⟨b, off + k * 4 + 1, none⟩ = some (.int .i64 x.ep) ∧ W'.cell? ⟨b, off + k * 4 + 2, none⟩ = some (.int .i64 x.nx) ∧ W'.cell? ⟨b, off + k * 4 + 3, none⟩ = some (.slice x.A x.keys.length x.c) from by
    obtain ⟨A', c', he, _, hcell⟩ := H.cells
    cases he
    exact hcell)
  have HK := Kp.mk (fun (t : TnA) (ht : t ∈ l) => And.intro (H.2 t ht).cells (hk t ht))
  obtain ⟨n, hn⟩ : ∃ n, l.length = n := ⟨_, rfl⟩
  rw [hn] at hcl hl A0 hW HW
  rw [hn]
  have HN := Kp.mk hn
  obtain ⟨rb, hrb⟩ : ∃ b, bP (RightS l ser) = b := ⟨_, rfl⟩
  rw [hrb]
  have HB := Kp.mk hrb
  obtain ⟨eb, heb⟩ : ∃ b, bP (FromP ser 0) = b := ⟨_, rfl⟩
  have cS := Kp.mk (fun W => in_any ser 0 W)
  rw [heb] at cS
  have HEB := Kp.mk heb
  clear hW hn hrb heb H hk
  go_enter Try.func41, Try.ntmps41
  go_upto_region 1 with fail
  rw [HW.out]
  clear HW
  have c0 := A0.cell 0; have c1 := A0.cell 1
  simp only [List.getElem?_cons_zero, List.getElem?_cons_succ] at c0 c1
  by_cases h16 : 16 < n
  · have q1 : decide ((16 : Int) < (n : Int)) = true := by simp; omega
    have hno : ¬ RightS l ser := fun h => by have := h.1; rw [HN.out] at this; omega
    have EE := E0
    obtain rfl : rb = false := by rw [← HB.out]; exact bP_no hno
    clear hno HB
    go_wp2
    go_ret
    exact ⟨rfl, EE⟩
  · have q1 : decide ((16 : Int) < (n : Int)) = false := by simp; omega
    go_wp2_with fail
    refine (cS.out _).mono ?_
    rintro e W1 ⟨rfl, E1⟩
    have A1 := A0.ext E1 A0.lt
    have F1 := E0.tr E1
    clear c0 c1 cS A0 E0 E1
    cases eb with
    | false =>
      have hno : ¬ RightS l ser := fun h => by have := bP_yes h.2.1; rw [HEB.out] at this; cases this
      have EE := F1
      obtain rfl : rb = false := by rw [← HB.out]; exact bP_no hno
      clear hno HB
      go_wp2
      go_ret
      exact ⟨rfl, EE⟩
    | true =>
      go_upto_region 4 with fail
      clear q1
      go_loopw [3] (fun i wr => ∃ j : Nat, i = .int .i64 j ∧ j ≤ n ∧ Ext w wr ∧ Arr wr w.heap.size 26 [.slice A n c, .int .i64 ser] ∧ (∀ (k : Nat) (x : TnA), k < j → l[k]? = some x → RightT x) ∧ (∀ (k : Nat) (x y : TnA), k + 1 < j → l[k]? = some x → l[k + 1]? = some y → cmpL x.name y.name < 0)) (fun i _ => n - (intOf i).toNat)
      case atStart => exact ⟨0, rfl, Nat.zero_le _, F1, A1, fun k _ h => absurd h (by omega), fun k _ _ h => absurd h (by omega)⟩
      case round =>
        clear F1 A1
        obtain ⟨j, rfl, hjn, EE, AS, hpre, hris⟩ := hrel
        have HPRE := Kp.mk hpre; have HRIS := Kp.mk hris
        clear hpre hris
        have s0 := AS.cell 0
        simp only [List.getElem?_cons_zero] at s0
        have hsz := EE.size
        by_cases hlt : j < n
        · obtain ⟨b, off, rfl, hbw, hcell⟩ := hcl.out (by omega)
          obtain ⟨x, hx⟩ : ∃ x, l[j]? = some x := ⟨_, List.getElem?_eq_getElem (by rw [HN.out]; exact hlt)⟩
          obtain ⟨d0, d1, d2, d3⟩ := hcell j x hx wr EE
          have HX := Kp.mk hx; have HCL2 := Kp.mk hcell
          obtain ⟨hKC, hk1000, hn1000⟩ := HK.out x (List.mem_of_getElem? hx)
          obtain ⟨m, hm⟩ : ∃ m, x.keys.length = m := ⟨_, rfl⟩
          rw [hm] at hKC hk1000 d3
          have HKC := Kp.mk hKC; have HM := Kp.mk hm
          clear hcell hx hKC hm
          go_upto_region 7 with fail
          obtain ⟨V5, hV5, E5, B5⟩ : ∃ V, wr.alloc (.cells #[.string (ofL x.name), .int .i64 x.ep, .int .i64 x.nx, .slice x.A m x.c] 47) = V ∧ Ext wr V ∧ Arr V wr.heap.size 47 [.string (ofL x.name), .int .i64 x.ep, .int .i64 x.nx, .slice x.A m x.c] := ⟨_, rfl, (Ext.rfl' wr).al _, Arr.new wr _ [.string (ofL x.name), .int .i64 x.ep, .int .i64 x.nx, .slice x.A m x.c]⟩
          rw [hV5]
          have AS5 := AS.ext E5 AS.lt
          replace EE := EE.tr E5
          obtain ⟨g5, hg5⟩ : ∃ g, wr.heap.size = g := ⟨_, rfl⟩
          rw [hg5] at B5 ⊢
          clear hV5 d0 d1 d2 d3 E5 AS hg5 s0
          obtain ⟨wb, hwb⟩ : ∃ b, wordL x.name = b := ⟨_, rfl⟩
          obtain ⟨eb, heb⟩ : ∃ b, bP (FromP x.ep 0) = b := ⟨_, rfl⟩
          obtain ⟨xb, hxb⟩ : ∃ b, bP (FromP x.nx 1) = b := ⟨_, rfl⟩
          have cW := Kp.mk (fun W => rwordn_any x.name W)
          have cE := Kp.mk (fun W => in_any x.ep 0 W)
          have cX := Kp.mk (fun W => in_any x.nx 1 W)
          rw [hwb] at cW
          rw [heb] at cE
          rw [hxb] at cX
          have HWB := Kp.mk hwb; have HEB2 := Kp.mk heb; have HXB := Kp.mk hxb
          clear hwb heb hxb
          cases wb with
          | false =>
            have hno : ¬ RightS l ser := fun h => by have := (h.2.2.1 j x HX.out).1; rw [HWB.out] at this; cases this
            refine wp_region_localsE (fun i v W => match i with
              | 0 => v = .pointer (some ⟨g5, 0, none⟩)
              | 1 => v = .string (ofL x.name)
              | 2 => v = .bool false
              | 3 => v = .bool true
              | 4 => v = .bool true
              | 5 => v = undef
              | 6 => v = undef
              | 7 => v = undef
              | 8 => v = undef
              | 9 => v = .bool true
              | 10 => v = .bool true
              | 11 => v = undef
              | 12 => v = undef
              | 13 => v = undef
              | 14 => v = undef
              | 15 => v = .bool true
              | 16 => v = .bool true
              | 17 => v = undef
              | 18 => v = undef
              | 19 => v = undef
              | 20 => v = undef
              | 21 => v = .bool true
              | 22 => v = .bool true
              | 23 => v = undef
              | 24 => v = undef
              | 25 => v = undef
              | 26 => v = undef
              | 27 => v = undef
              | 28 => v = undef
              | 29 => v = undef
              | 30 => v = undef
              | 31 => v = undef
              | 32 => v = undef
              | 33 => v = undef
              | 34 => v = undef
              | 35 => v = undef
              | 36 => v = undef
              | 37 => v = undef
              | 38 => v = .bool true
              | _ => True) (by kernel_rfl) (by kernel_rfl) (by kernel_rfl) (by kernel_rfl) ?_ ?_ ?_
            · intro i v W1 W2 e1 e2 h
              match i, h with
              | 0, h => exact h
              | 1, h => exact h
              | 2, h => exact h
              | 3, h => exact h
              | 4, h => exact h
              | 5, h => exact h
              | 6, h => exact h
              | 7, h => exact h
              | 8, h => exact h
              | 9, h => exact h
              | 10, h => exact h
              | 11, h => exact h
              | 12, h => exact h
              | 13, h => exact h
              | 14, h => exact h
              | 15, h => exact h
              | 16, h => exact h
              | 17, h => exact h
              | 18, h => exact h
              | 19, h => exact h
              | 20, h => exact h
              | 21, h => exact h
              | 22, h => exact h
              | 23, h => exact h
              | 24, h => exact h
              | 25, h => exact h
              | 26, h => exact h
              | 27, h => exact h
              | 28, h => exact h
              | 29, h => exact h
              | 30, h => exact h
              | 31, h => exact h
              | 32, h => exact h
              | 33, h => exact h
              | 34, h => exact h
              | 35, h => exact h
              | 36, h => exact h
              | 37, h => exact h
              | 38, h => exact h
              | (i + 39), h => exact h
            · intro HF
              refine locals_cons (fun u W hW hd => ?_) ?_
              · refine opLeaves_ev HF rfl fun ev zc zg zf zt => ?_
                have t4 : ev (.tmp 4) = .pointer (some ⟨g5, 0, none⟩) := zt 4
                clear zt
                exact ev_val (v := .pointer (some ⟨g5, 0, none⟩)) (by go_simp) rfl
              refine locals_cons (fun u W hW hd => ?_) ?_
              · refine opLeaves_ev HF rfl fun ev zc zg zf zt => ?_
                have t28 : ev (.tmp 28) = u 0 := zt 28
                clear zt
                have h0 : u 0 = _ := hd 0 (by kernel_rfl)
                have b0 := (B5.ext hW B5.lt).cell 0
                simp only [List.getElem?_cons_zero] at b0
                exact ev_val (v := .string (ofL x.name)) (by go_simp) rfl
              refine locals_cons (fun u W hW hd => ?_) ?_
              · refine opLeaves_ev HF rfl fun ev zc zg zf zt => ?_
                have t29 : ev (.tmp 29) = u 1 := zt 29
                clear zt
                have h1 : u 1 = _ := hd 1 (by kernel_rfl)
                exact ev_call (f := 57) (args := #[.string (ofL x.name)]) (by go_simp) ((cW.out W).mono (by rintro e9 W9 ⟨rfl, h9⟩; exact ⟨_, rfl, h9, rfl⟩))
              refine locals_cons (fun u W hW hd => ?_) ?_
              · refine opLeaves_ev HF rfl fun ev zc zg zf zt => ?_
                have t30 : ev (.tmp 30) = u 2 := zt 30
                clear zt
                have h2 : u 2 = _ := hd 2 (by kernel_rfl)
                exact ev_val (v := .bool true) (by go_simp) rfl
              refine locals_cons (fun u W hW hd => ?_) ?_
              · refine opLeaves_ev HF rfl fun ev zc zg zf zt => ?_
                have t31 : ev (.tmp 31) = u 3 := zt 31
                clear zt
                have h3 : u 3 = _ := hd 3 (by kernel_rfl)
                exact ev_val (v := .bool true) (by go_simp) rfl
              refine locals_cons (fun u W hW hd => ?_) ?_
              · have hG4 : u 4 = _ := hd 4 (by kernel_rfl)
                exact opLeaves_evOff HF rfl rfl hG4 (by intro h; cases h) rfl
              refine locals_cons (fun u W hW hd => ?_) ?_
              · have hG4 : u 4 = _ := hd 4 (by kernel_rfl)
                exact opLeaves_evOff HF rfl rfl hG4 (by intro h; cases h) rfl
              refine locals_cons (fun u W hW hd => ?_) ?_
              · have hG4 : u 4 = _ := hd 4 (by kernel_rfl)
                exact opLeaves_evOff HF rfl rfl hG4 (by intro h; cases h) rfl
              refine locals_cons (fun u W hW hd => ?_) ?_
              · have hG4 : u 4 = _ := hd 4 (by kernel_rfl)
                exact opLeaves_evOff HF rfl rfl hG4 (by intro h; cases h) rfl
              refine locals_cons (fun u W hW hd => ?_) ?_
              · refine opLeaves_ev HF rfl fun ev zc zg zf zt => ?_
                have t32 : ev (.tmp 32) = u 4 := zt 32
                have t36 : ev (.tmp 36) = u 8 := zt 36
                clear zt
                have h4 : u 4 = _ := hd 4 (by kernel_rfl)
                have h8 : u 8 = _ := hd 8 (by kernel_rfl)
                exact ev_val (v := .bool true) (by go_simp) rfl
              refine locals_cons (fun u W hW hd => ?_) ?_
              · refine opLeaves_ev HF rfl fun ev zc zg zf zt => ?_
                have t37 : ev (.tmp 37) = u 9 := zt 37
                clear zt
                have h9 : u 9 = _ := hd 9 (by kernel_rfl)
                exact ev_val (v := .bool true) (by go_simp) rfl
              refine locals_cons (fun u W hW hd => ?_) ?_
              · have hG10 : u 10 = _ := hd 10 (by kernel_rfl)
                exact opLeaves_evOff HF rfl rfl hG10 (by intro h; cases h) rfl
              refine locals_cons (fun u W hW hd => ?_) ?_
              · have hG10 : u 10 = _ := hd 10 (by kernel_rfl)
                exact opLeaves_evOff HF rfl rfl hG10 (by intro h; cases h) rfl
              refine locals_cons (fun u W hW hd => ?_) ?_
              · have hG10 : u 10 = _ := hd 10 (by kernel_rfl)
                exact opLeaves_evOff HF rfl rfl hG10 (by intro h; cases h) rfl
              refine locals_cons (fun u W hW hd => ?_) ?_
              · have hG10 : u 10 = _ := hd 10 (by kernel_rfl)
                exact opLeaves_evOff HF rfl rfl hG10 (by intro h; cases h) rfl
              refine locals_cons (fun u W hW hd => ?_) ?_
              · refine opLeaves_ev HF rfl fun ev zc zg zf zt => ?_
                have t38 : ev (.tmp 38) = u 10 := zt 38
                have t42 : ev (.tmp 42) = u 14 := zt 42
                clear zt
                have h10 : u 10 = _ := hd 10 (by kernel_rfl)
                have h14 : u 14 = _ := hd 14 (by kernel_rfl)
                exact ev_val (v := .bool true) (by go_simp) rfl
              refine locals_cons (fun u W hW hd => ?_) ?_
              · refine opLeaves_ev HF rfl fun ev zc zg zf zt => ?_
                have t43 : ev (.tmp 43) = u 15 := zt 43
                clear zt
                have h15 : u 15 = _ := hd 15 (by kernel_rfl)
                exact ev_val (v := .bool true) (by go_simp) rfl
              refine locals_cons (fun u W hW hd => ?_) ?_
              · have hG16 : u 16 = _ := hd 16 (by kernel_rfl)
                exact opLeaves_evOff HF rfl rfl hG16 (by intro h; cases h) rfl
              refine locals_cons (fun u W hW hd => ?_) ?_
              · have hG16 : u 16 = _ := hd 16 (by kernel_rfl)
                exact opLeaves_evOff HF rfl rfl hG16 (by intro h; cases h) rfl
              refine locals_cons (fun u W hW hd => ?_) ?_
              · have hG16 : u 16 = _ := hd 16 (by kernel_rfl)
                exact opLeaves_evOff HF rfl rfl hG16 (by intro h; cases h) rfl
              refine locals_cons (fun u W hW hd => ?_) ?_
              · have hG16 : u 16 = _ := hd 16 (by kernel_rfl)
                exact opLeaves_evOff HF rfl rfl hG16 (by intro h; cases h) rfl
              refine locals_cons (fun u W hW hd => ?_) ?_
              · refine opLeaves_ev HF rfl fun ev zc zg zf zt => ?_
                have t44 : ev (.tmp 44) = u 16 := zt 44
                have t48 : ev (.tmp 48) = u 20 := zt 48
                clear zt
                have h16 : u 16 = _ := hd 16 (by kernel_rfl)
                have h20 : u 20 = _ := hd 20 (by kernel_rfl)
                exact ev_val (v := .bool true) (by go_simp) rfl
              refine locals_cons (fun u W hW hd => ?_) ?_
              · refine opLeaves_ev HF rfl fun ev zc zg zf zt => ?_
                have t49 : ev (.tmp 49) = u 21 := zt 49
                clear zt
                have h21 : u 21 = _ := hd 21 (by kernel_rfl)
                exact ev_val (v := .bool true) (by go_simp) rfl
              refine locals_cons (fun u W hW hd => ?_) ?_
              · have hG22 : u 22 = _ := hd 22 (by kernel_rfl)
                exact opLeaves_evOff HF rfl rfl hG22 (by intro h; cases h) rfl
              refine locals_cons (fun u W hW hd => ?_) ?_
              · have hG22 : u 22 = _ := hd 22 (by kernel_rfl)
                exact opLeaves_evOff HF rfl rfl hG22 (by intro h; cases h) rfl
              refine locals_cons (fun u W hW hd => ?_) ?_
              · have hG22 : u 22 = _ := hd 22 (by kernel_rfl)
                exact opLeaves_evOff HF rfl rfl hG22 (by intro h; cases h) rfl
              refine locals_cons (fun u W hW hd => ?_) ?_
              · have hG25 : u 25 = _ := hd 25 (by kernel_rfl)
                exact opLeaves_evOff HF rfl rfl hG25 (by intro h; cases h) rfl
              refine locals_cons (fun u W hW hd => ?_) ?_
              · have hG25 : u 25 = _ := hd 25 (by kernel_rfl)
                exact opLeaves_evOff HF rfl rfl hG25 (by intro h; cases h) rfl
              refine locals_cons (fun u W hW hd => ?_) ?_
              · have hG25 : u 25 = _ := hd 25 (by kernel_rfl)
                exact opLeaves_evOff HF rfl rfl hG25 (by intro h; cases h) rfl
              refine locals_cons (fun u W hW hd => ?_) ?_
              · have hG25 : u 25 = _ := hd 25 (by kernel_rfl)
                exact opLeaves_evOff HF rfl rfl hG25 (by intro h; cases h) rfl
              refine locals_cons (fun u W hW hd => ?_) ?_
              · have hG25 : u 25 = _ := hd 25 (by kernel_rfl)
                exact opLeaves_evOff HF rfl rfl hG25 (by intro h; cases h) rfl
              refine locals_cons (fun u W hW hd => ?_) ?_
              · have hG25 : u 25 = _ := hd 25 (by kernel_rfl)
                exact opLeaves_evOff HF rfl rfl hG25 (by intro h; cases h) rfl
              refine locals_cons (fun u W hW hd => ?_) ?_
              · have hG25 : u 25 = _ := hd 25 (by kernel_rfl)
                exact opLeaves_evOff HF rfl rfl hG25 (by intro h; cases h) rfl
              refine locals_cons (fun u W hW hd => ?_) ?_
              · have hG25 : u 25 = _ := hd 25 (by kernel_rfl)
                exact opLeaves_evOff HF rfl rfl hG25 (by intro h; cases h) rfl
              refine locals_cons (fun u W hW hd => ?_) ?_
              · have hG25 : u 25 = _ := hd 25 (by kernel_rfl)
                exact opLeaves_evOff HF rfl rfl hG25 (by intro h; cases h) rfl
              refine locals_cons (fun u W hW hd => ?_) ?_
              · have hG25 : u 25 = _ := hd 25 (by kernel_rfl)
                exact opLeaves_evOff HF rfl rfl hG25 (by intro h; cases h) rfl
              refine locals_cons (fun u W hW hd => ?_) ?_
              · have hG25 : u 25 = _ := hd 25 (by kernel_rfl)
                exact opLeaves_evOff HF rfl rfl hG25 (by intro h; cases h) rfl
              refine locals_cons (fun u W hW hd => ?_) ?_
              · have hG22 : u 22 = _ := hd 22 (by kernel_rfl)
                exact opLeaves_evOff HF rfl rfl hG22 (by intro h; cases h) rfl
              refine locals_cons (fun u W hW hd => ?_) locals_nil
              · refine opLeaves_ev HF rfl fun ev zc zg zf zt => ?_
                have t50 : ev (.tmp 50) = u 22 := zt 50
                have t65 : ev (.tmp 65) = u 37 := zt 65
                clear zt
                have h22 : u 22 = _ := hd 22 (by kernel_rfl)
                have h37 : u 37 = _ := hd 37 (by kernel_rfl)
                exact ev_val (v := .bool true) (by go_simp) rfl
            · intro u7 w7 hW7 hV
              have h38 : u7 38 = _ := hV 38 (by decide)
              replace EE := EE.tr hW7
              clear hV
              go_simp
              obtain rfl : rb = false := by rw [← HB.out]; exact bP_no hno
              clear hno HB
              go_wp2
              go_ret
              exact ⟨rfl, EE⟩
          | true =>
            cases eb with
            | false =>
              have hno : ¬ RightS l ser := fun h => by have := bP_yes (h.2.2.1 j x HX.out).2.1; rw [HEB2.out] at this; cases this
              refine wp_region_localsE (fun i v W => match i with
                | 0 => v = .pointer (some ⟨g5, 0, none⟩)
                | 1 => v = .string (ofL x.name)
                | 2 => v = .bool true
                | 3 => v = .bool false
                | 4 => v = .bool false
                | 5 => v = .pointer (some ⟨g5, 1, none⟩)
                | 6 => v = .int .i64 x.ep
                | 7 => v = .bool false
                | 8 => v = .bool true
                | 9 => v = .bool true
                | 10 => v = .bool true
                | 11 => v = undef
                | 12 => v = undef
                | 13 => v = undef
                | 14 => v = undef
                | 15 => v = .bool true
                | 16 => v = .bool true
                | 17 => v = undef
                | 18 => v = undef
                | 19 => v = undef
                | 20 => v = undef
                | 21 => v = .bool true
                | 22 => v = .bool true
                | 23 => v = undef
                | 24 => v = undef
                | 25 => v = undef
                | 26 => v = undef
                | 27 => v = undef
                | 28 => v = undef
                | 29 => v = undef
                | 30 => v = undef
                | 31 => v = undef
                | 32 => v = undef
                | 33 => v = undef
                | 34 => v = undef
                | 35 => v = undef
                | 36 => v = undef
                | 37 => v = undef
                | 38 => v = .bool true
                | _ => True) (by kernel_rfl) (by kernel_rfl) (by kernel_rfl) (by kernel_rfl) ?_ ?_ ?_
              · intro i v W1 W2 e1 e2 h
                match i, h with
                | 0, h => exact h
                | 1, h => exact h
                | 2, h => exact h
                | 3, h => exact h
                | 4, h => exact h
                | 5, h => exact h
                | 6, h => exact h
                | 7, h => exact h
                | 8, h => exact h
                | 9, h => exact h
                | 10, h => exact h
                | 11, h => exact h
                | 12, h => exact h
                | 13, h => exact h
                | 14, h => exact h
                | 15, h => exact h
                | 16, h => exact h
                | 17, h => exact h
                | 18, h => exact h
                | 19, h => exact h
                | 20, h => exact h
                | 21, h => exact h
                | 22, h => exact h
                | 23, h => exact h
                | 24, h => exact h
                | 25, h => exact h
                | 26, h => exact h
                | 27, h => exact h
                | 28, h => exact h
                | 29, h => exact h
                | 30, h => exact h
                | 31, h => exact h
                | 32, h => exact h
                | 33, h => exact h
                | 34, h => exact h
                | 35, h => exact h
                | 36, h => exact h
                | 37, h => exact h
                | 38, h => exact h
                | (i + 39), h => exact h
              · intro HF
                refine locals_cons (fun u W hW hd => ?_) ?_
                · refine opLeaves_ev HF rfl fun ev zc zg zf zt => ?_
                  have t4 : ev (.tmp 4) = .pointer (some ⟨g5, 0, none⟩) := zt 4
                  clear zt
                  exact ev_val (v := .pointer (some ⟨g5, 0, none⟩)) (by go_simp) rfl
                refine locals_cons (fun u W hW hd => ?_) ?_
                · refine opLeaves_ev HF rfl fun ev zc zg zf zt => ?_
                  have t28 : ev (.tmp 28) = u 0 := zt 28
                  clear zt
                  have h0 : u 0 = _ := hd 0 (by kernel_rfl)
                  have b0 := (B5.ext hW B5.lt).cell 0
                  simp only [List.getElem?_cons_zero] at b0
                  exact ev_val (v := .string (ofL x.name)) (by go_simp) rfl
                refine locals_cons (fun u W hW hd => ?_) ?_
                · refine opLeaves_ev HF rfl fun ev zc zg zf zt => ?_
                  have t29 : ev (.tmp 29) = u 1 := zt 29
                  clear zt
                  have h1 : u 1 = _ := hd 1 (by kernel_rfl)
                  exact ev_call (f := 57) (args := #[.string (ofL x.name)]) (by go_simp) ((cW.out W).mono (by rintro e9 W9 ⟨rfl, h9⟩; exact ⟨_, rfl, h9, rfl⟩))
                refine locals_cons (fun u W hW hd => ?_) ?_
                · refine opLeaves_ev HF rfl fun ev zc zg zf zt => ?_
                  have t30 : ev (.tmp 30) = u 2 := zt 30
                  clear zt
                  have h2 : u 2 = _ := hd 2 (by kernel_rfl)
                  exact ev_val (v := .bool false) (by go_simp) rfl
                refine locals_cons (fun u W hW hd => ?_) ?_
                · refine opLeaves_ev HF rfl fun ev zc zg zf zt => ?_
                  have t31 : ev (.tmp 31) = u 3 := zt 31
                  clear zt
                  have h3 : u 3 = _ := hd 3 (by kernel_rfl)
                  exact ev_val (v := .bool false) (by go_simp) rfl
                refine locals_cons (fun u W hW hd => ?_) ?_
                · have hG4 : u 4 = _ := hd 4 (by kernel_rfl)
                  refine opLeaves_evG HF rfl rfl hG4 fun ev zc zg zf zt => ?_
                  have t4 : ev (.tmp 4) = .pointer (some ⟨g5, 0, none⟩) := zt 4
                  clear zt
                  have h4 : u 4 = _ := hd 4 (by kernel_rfl)
                  exact ev_val (v := .pointer (some ⟨g5, 1, none⟩)) (by go_simp) rfl
                refine locals_cons (fun u W hW hd => ?_) ?_
                · have hG4 : u 4 = _ := hd 4 (by kernel_rfl)
                  refine opLeaves_evG HF rfl rfl hG4 fun ev zc zg zf zt => ?_
                  have t33 : ev (.tmp 33) = u 5 := zt 33
                  clear zt
                  have h4 : u 4 = _ := hd 4 (by kernel_rfl)
                  have h5 : u 5 = _ := hd 5 (by kernel_rfl)
                  have b1 := (B5.ext hW B5.lt).cell 1
                  simp only [List.getElem?_cons_zero, List.getElem?_cons_succ] at b1
                  exact ev_val (v := .int .i64 x.ep) (by go_simp) rfl
                refine locals_cons (fun u W hW hd => ?_) ?_
                · have hG4 : u 4 = _ := hd 4 (by kernel_rfl)
                  refine opLeaves_evG HF rfl rfl hG4 fun ev zc zg zf zt => ?_
                  have t34 : ev (.tmp 34) = u 6 := zt 34
                  clear zt
                  have h4 : u 4 = _ := hd 4 (by kernel_rfl)
                  have h6 : u 6 = _ := hd 6 (by kernel_rfl)
                  exact ev_call (f := 56) (args := #[.int .i64 x.ep, .int .i64 0]) (by go_simp) ((cE.out W).mono (by rintro e9 W9 ⟨rfl, h9⟩; exact ⟨_, rfl, h9, rfl⟩))
                refine locals_cons (fun u W hW hd => ?_) ?_
                · have hG4 : u 4 = _ := hd 4 (by kernel_rfl)
                  refine opLeaves_evG HF rfl rfl hG4 fun ev zc zg zf zt => ?_
                  have t35 : ev (.tmp 35) = u 7 := zt 35
                  clear zt
                  have h4 : u 4 = _ := hd 4 (by kernel_rfl)
                  have h7 : u 7 = _ := hd 7 (by kernel_rfl)
                  exact ev_val (v := .bool true) (by go_simp) rfl
                refine locals_cons (fun u W hW hd => ?_) ?_
                · refine opLeaves_ev HF rfl fun ev zc zg zf zt => ?_
                  have t32 : ev (.tmp 32) = u 4 := zt 32
                  have t36 : ev (.tmp 36) = u 8 := zt 36
                  clear zt
                  have h4 : u 4 = _ := hd 4 (by kernel_rfl)
                  have h8 : u 8 = _ := hd 8 (by kernel_rfl)
                  exact ev_val (v := .bool true) (by go_simp) rfl
                refine locals_cons (fun u W hW hd => ?_) ?_
                · refine opLeaves_ev HF rfl fun ev zc zg zf zt => ?_
                  have t37 : ev (.tmp 37) = u 9 := zt 37
                  clear zt
                  have h9 : u 9 = _ := hd 9 (by kernel_rfl)
                  exact ev_val (v := .bool true) (by go_simp) rfl
                refine locals_cons (fun u W hW hd => ?_) ?_
                · have hG10 : u 10 = _ := hd 10 (by kernel_rfl)
                  exact opLeaves_evOff HF rfl rfl hG10 (by intro h; cases h) rfl
                refine locals_cons (fun u W hW hd => ?_) ?_
                · have hG10 : u 10 = _ := hd 10 (by kernel_rfl)
                  exact opLeaves_evOff HF rfl rfl hG10 (by intro h; cases h) rfl
                refine locals_cons (fun u W hW hd => ?_) ?_
                · have hG10 : u 10 = _ := hd 10 (by kernel_rfl)
                  exact opLeaves_evOff HF rfl rfl hG10 (by intro h; cases h) rfl
                refine locals_cons (fun u W hW hd => ?_) ?_
                · have hG10 : u 10 = _ := hd 10 (by kernel_rfl)
                  exact opLeaves_evOff HF rfl rfl hG10 (by intro h; cases h) rfl
                refine locals_cons (fun u W hW hd => ?_) ?_
                · refine opLeaves_ev HF rfl fun ev zc zg zf zt => ?_
                  have t38 : ev (.tmp 38) = u 10 := zt 38
                  have t42 : ev (.tmp 42) = u 14 := zt 42
                  clear zt
                  have h10 : u 10 = _ := hd 10 (by kernel_rfl)
                  have h14 : u 14 = _ := hd 14 (by kernel_rfl)
                  exact ev_val (v := .bool true) (by go_simp) rfl
                refine locals_cons (fun u W hW hd => ?_) ?_
                · refine opLeaves_ev HF rfl fun ev zc zg zf zt => ?_
                  have t43 : ev (.tmp 43) = u 15 := zt 43
                  clear zt
                  have h15 : u 15 = _ := hd 15 (by kernel_rfl)
                  exact ev_val (v := .bool true) (by go_simp) rfl
                refine locals_cons (fun u W hW hd => ?_) ?_
                · have hG16 : u 16 = _ := hd 16 (by kernel_rfl)
                  exact opLeaves_evOff HF rfl rfl hG16 (by intro h; cases h) rfl
                refine locals_cons (fun u W hW hd => ?_) ?_
                · have hG16 : u 16 = _ := hd 16 (by kernel_rfl)
                  exact opLeaves_evOff HF rfl rfl hG16 (by intro h; cases h) rfl
                refine locals_cons (fun u W hW hd => ?_) ?_
                · have hG16 : u 16 = _ := hd 16 (by kernel_rfl)
                  exact opLeaves_evOff HF rfl rfl hG16 (by intro h; cases h) rfl
                refine locals_cons (fun u W hW hd => ?_) ?_
                · have hG16 : u 16 = _ := hd 16 (by kernel_rfl)
                  exact opLeaves_evOff HF rfl rfl hG16 (by intro h; cases h) rfl
                refine locals_cons (fun u W hW hd => ?_) ?_
                · refine opLeaves_ev HF rfl fun ev zc zg zf zt => ?_
                  have t44 : ev (.tmp 44) = u 16 := zt 44
                  have t48 : ev (.tmp 48) = u 20 := zt 48
                  clear zt
                  have h16 : u 16 = _ := hd 16 (by kernel_rfl)
                  have h20 : u 20 = _ := hd 20 (by kernel_rfl)
                  exact ev_val (v := .bool true) (by go_simp) rfl
                refine locals_cons (fun u W hW hd => ?_) ?_
                · refine opLeaves_ev HF rfl fun ev zc zg zf zt => ?_
                  have t49 : ev (.tmp 49) = u 21 := zt 49
                  clear zt
                  have h21 : u 21 = _ := hd 21 (by kernel_rfl)
                  exact ev_val (v := .bool true) (by go_simp) rfl
                refine locals_cons (fun u W hW hd => ?_) ?_
                · have hG22 : u 22 = _ := hd 22 (by kernel_rfl)
                  exact opLeaves_evOff HF rfl rfl hG22 (by intro h; cases h) rfl
                refine locals_cons (fun u W hW hd => ?_) ?_
                · have hG22 : u 22 = _ := hd 22 (by kernel_rfl)
                  exact opLeaves_evOff HF rfl rfl hG22 (by intro h; cases h) rfl
                refine locals_cons (fun u W hW hd => ?_) ?_
                · have hG22 : u 22 = _ := hd 22 (by kernel_rfl)
                  exact opLeaves_evOff HF rfl rfl hG22 (by intro h; cases h) rfl
                refine locals_cons (fun u W hW hd => ?_) ?_
                · have hG25 : u 25 = _ := hd 25 (by kernel_rfl)
                  exact opLeaves_evOff HF rfl rfl hG25 (by intro h; cases h) rfl
                refine locals_cons (fun u W hW hd => ?_) ?_
                · have hG25 : u 25 = _ := hd 25 (by kernel_rfl)
                  exact opLeaves_evOff HF rfl rfl hG25 (by intro h; cases h) rfl
                refine locals_cons (fun u W hW hd => ?_) ?_
                · have hG25 : u 25 = _ := hd 25 (by kernel_rfl)
                  exact opLeaves_evOff HF rfl rfl hG25 (by intro h; cases h) rfl
                refine locals_cons (fun u W hW hd => ?_) ?_
                · have hG25 : u 25 = _ := hd 25 (by kernel_rfl)
                  exact opLeaves_evOff HF rfl rfl hG25 (by intro h; cases h) rfl
                refine locals_cons (fun u W hW hd => ?_) ?_
                · have hG25 : u 25 = _ := hd 25 (by kernel_rfl)
                  exact opLeaves_evOff HF rfl rfl hG25 (by intro h; cases h) rfl
                refine locals_cons (fun u W hW hd => ?_) ?_
                · have hG25 : u 25 = _ := hd 25 (by kernel_rfl)
                  exact opLeaves_evOff HF rfl rfl hG25 (by intro h; cases h) rfl
                refine locals_cons (fun u W hW hd => ?_) ?_
                · have hG25 : u 25 = _ := hd 25 (by kernel_rfl)
                  exact opLeaves_evOff HF rfl rfl hG25 (by intro h; cases h) rfl
                refine locals_cons (fun u W hW hd => ?_) ?_
                · have hG25 : u 25 = _ := hd 25 (by kernel_rfl)
                  exact opLeaves_evOff HF rfl rfl hG25 (by intro h; cases h) rfl
                refine locals_cons (fun u W hW hd => ?_) ?_
                · have hG25 : u 25 = _ := hd 25 (by kernel_rfl)
                  exact opLeaves_evOff HF rfl rfl hG25 (by intro h; cases h) rfl
                refine locals_cons (fun u W hW hd => ?_) ?_
                · have hG25 : u 25 = _ := hd 25 (by kernel_rfl)
                  exact opLeaves_evOff HF rfl rfl hG25 (by intro h; cases h) rfl
                refine locals_cons (fun u W hW hd => ?_) ?_
                · have hG25 : u 25 = _ := hd 25 (by kernel_rfl)
                  exact opLeaves_evOff HF rfl rfl hG25 (by intro h; cases h) rfl
                refine locals_cons (fun u W hW hd => ?_) ?_
                · have hG22 : u 22 = _ := hd 22 (by kernel_rfl)
                  exact opLeaves_evOff HF rfl rfl hG22 (by intro h; cases h) rfl
                refine locals_cons (fun u W hW hd => ?_) locals_nil
                · refine opLeaves_ev HF rfl fun ev zc zg zf zt => ?_
                  have t50 : ev (.tmp 50) = u 22 := zt 50
                  have t65 : ev (.tmp 65) = u 37 := zt 65
                  clear zt
                  have h22 : u 22 = _ := hd 22 (by kernel_rfl)
                  have h37 : u 37 = _ := hd 37 (by kernel_rfl)
                  exact ev_val (v := .bool true) (by go_simp) rfl
              · intro u7 w7 hW7 hV
                have h38 : u7 38 = _ := hV 38 (by decide)
                replace EE := EE.tr hW7
                clear hV
                go_simp
                obtain rfl : rb = false := by rw [← HB.out]; exact bP_no hno
                clear hno HB
                go_wp2
                go_ret
                exact ⟨rfl, EE⟩
            | true =>
              cases xb with
              | false =>
                have hno : ¬ RightS l ser := fun h => by have := bP_yes (h.2.2.1 j x HX.out).2.2.1; rw [HXB.out] at this; cases this
                refine wp_region_localsE (fun i v W => match i with
                  | 0 => v = .pointer (some ⟨g5, 0, none⟩)
                  | 1 => v = .string (ofL x.name)
                  | 2 => v = .bool true
                  | 3 => v = .bool false
                  | 4 => v = .bool false
                  | 5 => v = .pointer (some ⟨g5, 1, none⟩)
                  | 6 => v = .int .i64 x.ep
                  | 7 => v = .bool true
                  | 8 => v = .bool false
                  | 9 => v = .bool false
                  | 10 => v = .bool false
                  | 11 => v = .pointer (some ⟨g5, 2, none⟩)
                  | 12 => v = .int .i64 x.nx
                  | 13 => v = .bool false
                  | 14 => v = .bool true
                  | 15 => v = .bool true
                  | 16 => v = .bool true
                  | 17 => v = undef
                  | 18 => v = undef
                  | 19 => v = undef
                  | 20 => v = undef
                  | 21 => v = .bool true
                  | 22 => v = .bool true
                  | 23 => v = undef
                  | 24 => v = undef
                  | 25 => v = undef
                  | 26 => v = undef
                  | 27 => v = undef
                  | 28 => v = undef
                  | 29 => v = undef
                  | 30 => v = undef
                  | 31 => v = undef
                  | 32 => v = undef
                  | 33 => v = undef
                  | 34 => v = undef
                  | 35 => v = undef
                  | 36 => v = undef
                  | 37 => v = undef
                  | 38 => v = .bool true
                  | _ => True) (by kernel_rfl) (by kernel_rfl) (by kernel_rfl) (by kernel_rfl) ?_ ?_ ?_
                · intro i v W1 W2 e1 e2 h
                  match i, h with
                  | 0, h => exact h
                  | 1, h => exact h
                  | 2, h => exact h
                  | 3, h => exact h
                  | 4, h => exact h
                  | 5, h => exact h
                  | 6, h => exact h
                  | 7, h => exact h
                  | 8, h => exact h
                  | 9, h => exact h
                  | 10, h => exact h
                  | 11, h => exact h
                  | 12, h => exact h
                  | 13, h => exact h
                  | 14, h => exact h
                  | 15, h => exact h
                  | 16, h => exact h
                  | 17, h => exact h
                  | 18, h => exact h
                  | 19, h => exact h
                  | 20, h => exact h
                  | 21, h => exact h
                  | 22, h => exact h
                  | 23, h => exact h
                  | 24, h => exact h
                  | 25, h => exact h
                  | 26, h => exact h
                  | 27, h => exact h
                  | 28, h => exact h
                  | 29, h => exact h
                  | 30, h => exact h
                  | 31, h => exact h
                  | 32, h => exact h
                  | 33, h => exact h
                  | 34, h => exact h
                  | 35, h => exact h
                  | 36, h => exact h
                  | 37, h => exact h
                  | 38, h => exact h
                  | (i + 39), h => exact h
                · intro HF
                  refine locals_cons (fun u W hW hd => ?_) ?_
                  · refine opLeaves_ev HF rfl fun ev zc zg zf zt => ?_
                    have t4 : ev (.tmp 4) = .pointer (some ⟨g5, 0, none⟩) := zt 4
                    clear zt
                    exact ev_val (v := .pointer (some ⟨g5, 0, none⟩)) (by go_simp) rfl
                  refine locals_cons (fun u W hW hd => ?_) ?_
                  · refine opLeaves_ev HF rfl fun ev zc zg zf zt => ?_
                    have t28 : ev (.tmp 28) = u 0 := zt 28
                    clear zt
                    have h0 : u 0 = _ := hd 0 (by kernel_rfl)
                    have b0 := (B5.ext hW B5.lt).cell 0
                    simp only [List.getElem?_cons_zero] at b0
                    exact ev_val (v := .string (ofL x.name)) (by go_simp) rfl
                  refine locals_cons (fun u W hW hd => ?_) ?_
                  · refine opLeaves_ev HF rfl fun ev zc zg zf zt => ?_
                    have t29 : ev (.tmp 29) = u 1 := zt 29
                    clear zt
                    have h1 : u 1 = _ := hd 1 (by kernel_rfl)
                    exact ev_call (f := 57) (args := #[.string (ofL x.name)]) (by go_simp) ((cW.out W).mono (by rintro e9 W9 ⟨rfl, h9⟩; exact ⟨_, rfl, h9, rfl⟩))
                  refine locals_cons (fun u W hW hd => ?_) ?_
                  · refine opLeaves_ev HF rfl fun ev zc zg zf zt => ?_
                    have t30 : ev (.tmp 30) = u 2 := zt 30
                    clear zt
                    have h2 : u 2 = _ := hd 2 (by kernel_rfl)
                    exact ev_val (v := .bool false) (by go_simp) rfl
                  refine locals_cons (fun u W hW hd => ?_) ?_
                  · refine opLeaves_ev HF rfl fun ev zc zg zf zt => ?_
                    have t31 : ev (.tmp 31) = u 3 := zt 31
                    clear zt
                    have h3 : u 3 = _ := hd 3 (by kernel_rfl)
                    exact ev_val (v := .bool false) (by go_simp) rfl
                  refine locals_cons (fun u W hW hd => ?_) ?_
                  · have hG4 : u 4 = _ := hd 4 (by kernel_rfl)
                    refine opLeaves_evG HF rfl rfl hG4 fun ev zc zg zf zt => ?_
                    have t4 : ev (.tmp 4) = .pointer (some ⟨g5, 0, none⟩) := zt 4
                    clear zt
                    have h4 : u 4 = _ := hd 4 (by kernel_rfl)
                    exact ev_val (v := .pointer (some ⟨g5, 1, none⟩)) (by go_simp) rfl
                  refine locals_cons (fun u W hW hd => ?_) ?_
                  · have hG4 : u 4 = _ := hd 4 (by kernel_rfl)
                    refine opLeaves_evG HF rfl rfl hG4 fun ev zc zg zf zt => ?_
                    have t33 : ev (.tmp 33) = u 5 := zt 33
                    clear zt
                    have h4 : u 4 = _ := hd 4 (by kernel_rfl)
                    have h5 : u 5 = _ := hd 5 (by kernel_rfl)
                    have b1 := (B5.ext hW B5.lt).cell 1
                    simp only [List.getElem?_cons_zero, List.getElem?_cons_succ] at b1
                    exact ev_val (v := .int .i64 x.ep) (by go_simp) rfl
                  refine locals_cons (fun u W hW hd => ?_) ?_
                  · have hG4 : u 4 = _ := hd 4 (by kernel_rfl)
                    refine opLeaves_evG HF rfl rfl hG4 fun ev zc zg zf zt => ?_
                    have t34 : ev (.tmp 34) = u 6 := zt 34
                    clear zt
                    have h4 : u 4 = _ := hd 4 (by kernel_rfl)
                    have h6 : u 6 = _ := hd 6 (by kernel_rfl)
                    exact ev_call (f := 56) (args := #[.int .i64 x.ep, .int .i64 0]) (by go_simp) ((cE.out W).mono (by rintro e9 W9 ⟨rfl, h9⟩; exact ⟨_, rfl, h9, rfl⟩))
                  refine locals_cons (fun u W hW hd => ?_) ?_
                  · have hG4 : u 4 = _ := hd 4 (by kernel_rfl)
                    refine opLeaves_evG HF rfl rfl hG4 fun ev zc zg zf zt => ?_
                    have t35 : ev (.tmp 35) = u 7 := zt 35
                    clear zt
                    have h4 : u 4 = _ := hd 4 (by kernel_rfl)
                    have h7 : u 7 = _ := hd 7 (by kernel_rfl)
                    exact ev_val (v := .bool false) (by go_simp) rfl
                  refine locals_cons (fun u W hW hd => ?_) ?_
                  · refine opLeaves_ev HF rfl fun ev zc zg zf zt => ?_
                    have t32 : ev (.tmp 32) = u 4 := zt 32
                    have t36 : ev (.tmp 36) = u 8 := zt 36
                    clear zt
                    have h4 : u 4 = _ := hd 4 (by kernel_rfl)
                    have h8 : u 8 = _ := hd 8 (by kernel_rfl)
                    exact ev_val (v := .bool false) (by go_simp) rfl
                  refine locals_cons (fun u W hW hd => ?_) ?_
                  · refine opLeaves_ev HF rfl fun ev zc zg zf zt => ?_
                    have t37 : ev (.tmp 37) = u 9 := zt 37
                    clear zt
                    have h9 : u 9 = _ := hd 9 (by kernel_rfl)
                    exact ev_val (v := .bool false) (by go_simp) rfl
                  refine locals_cons (fun u W hW hd => ?_) ?_
                  · have hG10 : u 10 = _ := hd 10 (by kernel_rfl)
                    refine opLeaves_evG HF rfl rfl hG10 fun ev zc zg zf zt => ?_
                    have t4 : ev (.tmp 4) = .pointer (some ⟨g5, 0, none⟩) := zt 4
                    clear zt
                    have h10 : u 10 = _ := hd 10 (by kernel_rfl)
                    exact ev_val (v := .pointer (some ⟨g5, 2, none⟩)) (by go_simp) rfl
                  refine locals_cons (fun u W hW hd => ?_) ?_
                  · have hG10 : u 10 = _ := hd 10 (by kernel_rfl)
                    refine opLeaves_evG HF rfl rfl hG10 fun ev zc zg zf zt => ?_
                    have t39 : ev (.tmp 39) = u 11 := zt 39
                    clear zt
                    have h10 : u 10 = _ := hd 10 (by kernel_rfl)
                    have h11 : u 11 = _ := hd 11 (by kernel_rfl)
                    have b2 := (B5.ext hW B5.lt).cell 2
                    simp only [List.getElem?_cons_zero, List.getElem?_cons_succ] at b2
                    exact ev_val (v := .int .i64 x.nx) (by go_simp) rfl
                  refine locals_cons (fun u W hW hd => ?_) ?_
                  · have hG10 : u 10 = _ := hd 10 (by kernel_rfl)
                    refine opLeaves_evG HF rfl rfl hG10 fun ev zc zg zf zt => ?_
                    have t40 : ev (.tmp 40) = u 12 := zt 40
                    clear zt
                    have h10 : u 10 = _ := hd 10 (by kernel_rfl)
                    have h12 : u 12 = _ := hd 12 (by kernel_rfl)
                    exact ev_call (f := 56) (args := #[.int .i64 x.nx, .int .i64 1]) (by go_simp) ((cX.out W).mono (by rintro e9 W9 ⟨rfl, h9⟩; exact ⟨_, rfl, h9, rfl⟩))
                  refine locals_cons (fun u W hW hd => ?_) ?_
                  · have hG10 : u 10 = _ := hd 10 (by kernel_rfl)
                    refine opLeaves_evG HF rfl rfl hG10 fun ev zc zg zf zt => ?_
                    have t41 : ev (.tmp 41) = u 13 := zt 41
                    clear zt
                    have h10 : u 10 = _ := hd 10 (by kernel_rfl)
                    have h13 : u 13 = _ := hd 13 (by kernel_rfl)
                    exact ev_val (v := .bool true) (by go_simp) rfl
                  refine locals_cons (fun u W hW hd => ?_) ?_
                  · refine opLeaves_ev HF rfl fun ev zc zg zf zt => ?_
                    have t38 : ev (.tmp 38) = u 10 := zt 38
                    have t42 : ev (.tmp 42) = u 14 := zt 42
                    clear zt
                    have h10 : u 10 = _ := hd 10 (by kernel_rfl)
                    have h14 : u 14 = _ := hd 14 (by kernel_rfl)
                    exact ev_val (v := .bool true) (by go_simp) rfl
                  refine locals_cons (fun u W hW hd => ?_) ?_
                  · refine opLeaves_ev HF rfl fun ev zc zg zf zt => ?_
                    have t43 : ev (.tmp 43) = u 15 := zt 43
                    clear zt
                    have h15 : u 15 = _ := hd 15 (by kernel_rfl)
                    exact ev_val (v := .bool true) (by go_simp) rfl
                  refine locals_cons (fun u W hW hd => ?_) ?_
                  · have hG16 : u 16 = _ := hd 16 (by kernel_rfl)
                    exact opLeaves_evOff HF rfl rfl hG16 (by intro h; cases h) rfl
                  refine locals_cons (fun u W hW hd => ?_) ?_
                  · have hG16 : u 16 = _ := hd 16 (by kernel_rfl)
                    exact opLeaves_evOff HF rfl rfl hG16 (by intro h; cases h) rfl
                  refine locals_cons (fun u W hW hd => ?_) ?_
                  · have hG16 : u 16 = _ := hd 16 (by kernel_rfl)
                    exact opLeaves_evOff HF rfl rfl hG16 (by intro h; cases h) rfl
                  refine locals_cons (fun u W hW hd => ?_) ?_
                  · have hG16 : u 16 = _ := hd 16 (by kernel_rfl)
                    exact opLeaves_evOff HF rfl rfl hG16 (by intro h; cases h) rfl
                  refine locals_cons (fun u W hW hd => ?_) ?_
                  · refine opLeaves_ev HF rfl fun ev zc zg zf zt => ?_
                    have t44 : ev (.tmp 44) = u 16 := zt 44
                    have t48 : ev (.tmp 48) = u 20 := zt 48
                    clear zt
                    have h16 : u 16 = _ := hd 16 (by kernel_rfl)
                    have h20 : u 20 = _ := hd 20 (by kernel_rfl)
                    exact ev_val (v := .bool true) (by go_simp) rfl
                  refine locals_cons (fun u W hW hd => ?_) ?_
                  · refine opLeaves_ev HF rfl fun ev zc zg zf zt => ?_
                    have t49 : ev (.tmp 49) = u 21 := zt 49
                    clear zt
                    have h21 : u 21 = _ := hd 21 (by kernel_rfl)
                    exact ev_val (v := .bool true) (by go_simp) rfl
                  refine locals_cons (fun u W hW hd => ?_) ?_
                  · have hG22 : u 22 = _ := hd 22 (by kernel_rfl)
                    exact opLeaves_evOff HF rfl rfl hG22 (by intro h; cases h) rfl
                  refine locals_cons (fun u W hW hd => ?_) ?_
                  · have hG22 : u 22 = _ := hd 22 (by kernel_rfl)
                    exact opLeaves_evOff HF rfl rfl hG22 (by intro h; cases h) rfl
                  refine locals_cons (fun u W hW hd => ?_) ?_
                  · have hG22 : u 22 = _ := hd 22 (by kernel_rfl)
                    exact opLeaves_evOff HF rfl rfl hG22 (by intro h; cases h) rfl
                  refine locals_cons (fun u W hW hd => ?_) ?_
                  · have hG25 : u 25 = _ := hd 25 (by kernel_rfl)
                    exact opLeaves_evOff HF rfl rfl hG25 (by intro h; cases h) rfl
                  refine locals_cons (fun u W hW hd => ?_) ?_
                  · have hG25 : u 25 = _ := hd 25 (by kernel_rfl)
                    exact opLeaves_evOff HF rfl rfl hG25 (by intro h; cases h) rfl
                  refine locals_cons (fun u W hW hd => ?_) ?_
                  · have hG25 : u 25 = _ := hd 25 (by kernel_rfl)
                    exact opLeaves_evOff HF rfl rfl hG25 (by intro h; cases h) rfl
                  refine locals_cons (fun u W hW hd => ?_) ?_
                  · have hG25 : u 25 = _ := hd 25 (by kernel_rfl)
                    exact opLeaves_evOff HF rfl rfl hG25 (by intro h; cases h) rfl
                  refine locals_cons (fun u W hW hd => ?_) ?_
                  · have hG25 : u 25 = _ := hd 25 (by kernel_rfl)
                    exact opLeaves_evOff HF rfl rfl hG25 (by intro h; cases h) rfl
                  refine locals_cons (fun u W hW hd => ?_) ?_
                  · have hG25 : u 25 = _ := hd 25 (by kernel_rfl)
                    exact opLeaves_evOff HF rfl rfl hG25 (by intro h; cases h) rfl
                  refine locals_cons (fun u W hW hd => ?_) ?_
                  · have hG25 : u 25 = _ := hd 25 (by kernel_rfl)
                    exact opLeaves_evOff HF rfl rfl hG25 (by intro h; cases h) rfl
                  refine locals_cons (fun u W hW hd => ?_) ?_
                  · have hG25 : u 25 = _ := hd 25 (by kernel_rfl)
                    exact opLeaves_evOff HF rfl rfl hG25 (by intro h; cases h) rfl
                  refine locals_cons (fun u W hW hd => ?_) ?_
                  · have hG25 : u 25 = _ := hd 25 (by kernel_rfl)
                    exact opLeaves_evOff HF rfl rfl hG25 (by intro h; cases h) rfl
                  refine locals_cons (fun u W hW hd => ?_) ?_
                  · have hG25 : u 25 = _ := hd 25 (by kernel_rfl)
                    exact opLeaves_evOff HF rfl rfl hG25 (by intro h; cases h) rfl
                  refine locals_cons (fun u W hW hd => ?_) ?_
                  · have hG25 : u 25 = _ := hd 25 (by kernel_rfl)
                    exact opLeaves_evOff HF rfl rfl hG25 (by intro h; cases h) rfl
                  refine locals_cons (fun u W hW hd => ?_) ?_
                  · have hG22 : u 22 = _ := hd 22 (by kernel_rfl)
                    exact opLeaves_evOff HF rfl rfl hG22 (by intro h; cases h) rfl
                  refine locals_cons (fun u W hW hd => ?_) locals_nil
                  · refine opLeaves_ev HF rfl fun ev zc zg zf zt => ?_
                    have t50 : ev (.tmp 50) = u 22 := zt 50
                    have t65 : ev (.tmp 65) = u 37 := zt 65
                    clear zt
                    have h22 : u 22 = _ := hd 22 (by kernel_rfl)
                    have h37 : u 37 = _ := hd 37 (by kernel_rfl)
                    exact ev_val (v := .bool true) (by go_simp) rfl
                · intro u7 w7 hW7 hV
                  have h38 : u7 38 = _ := hV 38 (by decide)
                  replace EE := EE.tr hW7
                  clear hV
                  go_simp
                  obtain rfl : rb = false := by rw [← HB.out]; exact bP_no hno
                  clear hno HB
                  go_wp2
                  go_ret
                  exact ⟨rfl, EE⟩
              | true =>
                by_cases h8 : 8 < m
                · have q8 : decide ((8 : Int) < (m : Int)) = true := by simp; omega
                  have hno : ¬ RightS l ser := fun h => by have := (h.2.2.1 j x HX.out).2.2.2.1; rw [HM.out] at this; omega
                  refine wp_region_localsE (fun i v W => match i with
                    | 0 => v = .pointer (some ⟨g5, 0, none⟩)
                    | 1 => v = .string (ofL x.name)
                    | 2 => v = .bool true
                    | 3 => v = .bool false
                    | 4 => v = .bool false
                    | 5 => v = .pointer (some ⟨g5, 1, none⟩)
                    | 6 => v = .int .i64 x.ep
                    | 7 => v = .bool true
                    | 8 => v = .bool false
                    | 9 => v = .bool false
                    | 10 => v = .bool false
                    | 11 => v = .pointer (some ⟨g5, 2, none⟩)
                    | 12 => v = .int .i64 x.nx
                    | 13 => v = .bool true
                    | 14 => v = .bool false
                    | 15 => v = .bool false
                    | 16 => v = .bool false
                    | 17 => v = .pointer (some ⟨g5, 3, none⟩)
                    | 18 => v = .slice x.A m x.c
                    | 19 => v = .int .i64 m
                    | 20 => v = .bool true
                    | 21 => v = .bool true
                    | 22 => v = .bool true
                    | 23 => v = undef
                    | 24 => v = undef
                    | 25 => v = undef
                    | 26 => v = undef
                    | 27 => v = undef
                    | 28 => v = undef
                    | 29 => v = undef
                    | 30 => v = undef
                    | 31 => v = undef
                    | 32 => v = undef
                    | 33 => v = undef
                    | 34 => v = undef
                    | 35 => v = undef
                    | 36 => v = undef
                    | 37 => v = undef
                    | 38 => v = .bool true
                    | _ => True) (by kernel_rfl) (by kernel_rfl) (by kernel_rfl) (by kernel_rfl) ?_ ?_ ?_
                  · intro i v W1 W2 e1 e2 h
                    match i, h with
                    | 0, h => exact h
                    | 1, h => exact h
                    | 2, h => exact h
                    | 3, h => exact h
                    | 4, h => exact h
                    | 5, h => exact h
                    | 6, h => exact h
                    | 7, h => exact h
                    | 8, h => exact h
                    | 9, h => exact h
                    | 10, h => exact h
                    | 11, h => exact h
                    | 12, h => exact h
                    | 13, h => exact h
                    | 14, h => exact h
                    | 15, h => exact h
                    | 16, h => exact h
                    | 17, h => exact h
                    | 18, h => exact h
                    | 19, h => exact h
                    | 20, h => exact h
                    | 21, h => exact h
                    | 22, h => exact h
                    | 23, h => exact h
                    | 24, h => exact h
                    | 25, h => exact h
                    | 26, h => exact h
                    | 27, h => exact h
                    | 28, h => exact h
                    | 29, h => exact h
                    | 30, h => exact h
                    | 31, h => exact h
                    | 32, h => exact h
                    | 33, h => exact h
                    | 34, h => exact h
                    | 35, h => exact h
                    | 36, h => exact h
                    | 37, h => exact h
                    | 38, h => exact h
                    | (i + 39), h => exact h
                  · intro HF
                    refine locals_cons (fun u W hW hd => ?_) ?_
                    · refine opLeaves_ev HF rfl fun ev zc zg zf zt => ?_
                      have t4 : ev (.tmp 4) = .pointer (some ⟨g5, 0, none⟩) := zt 4
                      clear zt
                      exact ev_val (v := .pointer (some ⟨g5, 0, none⟩)) (by go_simp) rfl
                    refine locals_cons (fun u W hW hd => ?_) ?_
                    · refine opLeaves_ev HF rfl fun ev zc zg zf zt => ?_
                      have t28 : ev (.tmp 28) = u 0 := zt 28
                      clear zt
                      have h0 : u 0 = _ := hd 0 (by kernel_rfl)
                      have b0 := (B5.ext hW B5.lt).cell 0
                      simp only [List.getElem?_cons_zero] at b0
                      exact ev_val (v := .string (ofL x.name)) (by go_simp) rfl
                    refine locals_cons (fun u W hW hd => ?_) ?_
                    · refine opLeaves_ev HF rfl fun ev zc zg zf zt => ?_
                      have t29 : ev (.tmp 29) = u 1 := zt 29
                      clear zt
                      have h1 : u 1 = _ := hd 1 (by kernel_rfl)
                      exact ev_call (f := 57) (args := #[.string (ofL x.name)]) (by go_simp) ((cW.out W).mono (by rintro e9 W9 ⟨rfl, h9⟩; exact ⟨_, rfl, h9, rfl⟩))
                    refine locals_cons (fun u W hW hd => ?_) ?_
                    · refine opLeaves_ev HF rfl fun ev zc zg zf zt => ?_
                      have t30 : ev (.tmp 30) = u 2 := zt 30
                      clear zt
                      have h2 : u 2 = _ := hd 2 (by kernel_rfl)
                      exact ev_val (v := .bool false) (by go_simp) rfl
                    refine locals_cons (fun u W hW hd => ?_) ?_
                    · refine opLeaves_ev HF rfl fun ev zc zg zf zt => ?_
                      have t31 : ev (.tmp 31) = u 3 := zt 31
                      clear zt
                      have h3 : u 3 = _ := hd 3 (by kernel_rfl)
                      exact ev_val (v := .bool false) (by go_simp) rfl
                    refine locals_cons (fun u W hW hd => ?_) ?_
                    · have hG4 : u 4 = _ := hd 4 (by kernel_rfl)
                      refine opLeaves_evG HF rfl rfl hG4 fun ev zc zg zf zt => ?_
                      have t4 : ev (.tmp 4) = .pointer (some ⟨g5, 0, none⟩) := zt 4
                      clear zt
                      have h4 : u 4 = _ := hd 4 (by kernel_rfl)
                      exact ev_val (v := .pointer (some ⟨g5, 1, none⟩)) (by go_simp) rfl
                    refine locals_cons (fun u W hW hd => ?_) ?_
                    · have hG4 : u 4 = _ := hd 4 (by kernel_rfl)
                      refine opLeaves_evG HF rfl rfl hG4 fun ev zc zg zf zt => ?_
                      have t33 : ev (.tmp 33) = u 5 := zt 33
                      clear zt
                      have h4 : u 4 = _ := hd 4 (by kernel_rfl)
                      have h5 : u 5 = _ := hd 5 (by kernel_rfl)
                      have b1 := (B5.ext hW B5.lt).cell 1
                      simp only [List.getElem?_cons_zero, List.getElem?_cons_succ] at b1
                      exact ev_val (v := .int .i64 x.ep) (by go_simp) rfl
                    refine locals_cons (fun u W hW hd => ?_) ?_
                    · have hG4 : u 4 = _ := hd 4 (by kernel_rfl)
                      refine opLeaves_evG HF rfl rfl hG4 fun ev zc zg zf zt => ?_
                      have t34 : ev (.tmp 34) = u 6 := zt 34
                      clear zt
                      have h4 : u 4 = _ := hd 4 (by kernel_rfl)
                      have h6 : u 6 = _ := hd 6 (by kernel_rfl)
                      exact ev_call (f := 56) (args := #[.int .i64 x.ep, .int .i64 0]) (by go_simp) ((cE.out W).mono (by rintro e9 W9 ⟨rfl, h9⟩; exact ⟨_, rfl, h9, rfl⟩))
                    refine locals_cons (fun u W hW hd => ?_) ?_
                    · have hG4 : u 4 = _ := hd 4 (by kernel_rfl)
                      refine opLeaves_evG HF rfl rfl hG4 fun ev zc zg zf zt => ?_
                      have t35 : ev (.tmp 35) = u 7 := zt 35
                      clear zt
                      have h4 : u 4 = _ := hd 4 (by kernel_rfl)
                      have h7 : u 7 = _ := hd 7 (by kernel_rfl)
                      exact ev_val (v := .bool false) (by go_simp) rfl
                    refine locals_cons (fun u W hW hd => ?_) ?_
                    · refine opLeaves_ev HF rfl fun ev zc zg zf zt => ?_
                      have t32 : ev (.tmp 32) = u 4 := zt 32
                      have t36 : ev (.tmp 36) = u 8 := zt 36
                      clear zt
                      have h4 : u 4 = _ := hd 4 (by kernel_rfl)
                      have h8 : u 8 = _ := hd 8 (by kernel_rfl)
                      exact ev_val (v := .bool false) (by go_simp) rfl
                    refine locals_cons (fun u W hW hd => ?_) ?_
                    · refine opLeaves_ev HF rfl fun ev zc zg zf zt => ?_
                      have t37 : ev (.tmp 37) = u 9 := zt 37
                      clear zt
                      have h9 : u 9 = _ := hd 9 (by kernel_rfl)
                      exact ev_val (v := .bool false) (by go_simp) rfl
                    refine locals_cons (fun u W hW hd => ?_) ?_
                    · have hG10 : u 10 = _ := hd 10 (by kernel_rfl)
                      refine opLeaves_evG HF rfl rfl hG10 fun ev zc zg zf zt => ?_
                      have t4 : ev (.tmp 4) = .pointer (some ⟨g5, 0, none⟩) := zt 4
                      clear zt
                      have h10 : u 10 = _ := hd 10 (by kernel_rfl)
                      exact ev_val (v := .pointer (some ⟨g5, 2, none⟩)) (by go_simp) rfl
                    refine locals_cons (fun u W hW hd => ?_) ?_
                    · have hG10 : u 10 = _ := hd 10 (by kernel_rfl)
                      refine opLeaves_evG HF rfl rfl hG10 fun ev zc zg zf zt => ?_
                      have t39 : ev (.tmp 39) = u 11 := zt 39
                      clear zt
                      have h10 : u 10 = _ := hd 10 (by kernel_rfl)
                      have h11 : u 11 = _ := hd 11 (by kernel_rfl)
                      have b2 := (B5.ext hW B5.lt).cell 2
                      simp only [List.getElem?_cons_zero, List.getElem?_cons_succ] at b2
                      exact ev_val (v := .int .i64 x.nx) (by go_simp) rfl
                    refine locals_cons (fun u W hW hd => ?_) ?_
                    · have hG10 : u 10 = _ := hd 10 (by kernel_rfl)
                      refine opLeaves_evG HF rfl rfl hG10 fun ev zc zg zf zt => ?_
                      have t40 : ev (.tmp 40) = u 12 := zt 40
                      clear zt
                      have h10 : u 10 = _ := hd 10 (by kernel_rfl)
                      have h12 : u 12 = _ := hd 12 (by kernel_rfl)
                      exact ev_call (f := 56) (args := #[.int .i64 x.nx, .int .i64 1]) (by go_simp) ((cX.out W).mono (by rintro e9 W9 ⟨rfl, h9⟩; exact ⟨_, rfl, h9, rfl⟩))
                    refine locals_cons (fun u W hW hd => ?_) ?_
                    · have hG10 : u 10 = _ := hd 10 (by kernel_rfl)
                      refine opLeaves_evG HF rfl rfl hG10 fun ev zc zg zf zt => ?_
                      have t41 : ev (.tmp 41) = u 13 := zt 41
                      clear zt
                      have h10 : u 10 = _ := hd 10 (by kernel_rfl)
                      have h13 : u 13 = _ := hd 13 (by kernel_rfl)
                      exact ev_val (v := .bool false) (by go_simp) rfl
                    refine locals_cons (fun u W hW hd => ?_) ?_
                    · refine opLeaves_ev HF rfl fun ev zc zg zf zt => ?_
                      have t38 : ev (.tmp 38) = u 10 := zt 38
                      have t42 : ev (.tmp 42) = u 14 := zt 42
                      clear zt
                      have h10 : u 10 = _ := hd 10 (by kernel_rfl)
                      have h14 : u 14 = _ := hd 14 (by kernel_rfl)
                      exact ev_val (v := .bool false) (by go_simp) rfl
                    refine locals_cons (fun u W hW hd => ?_) ?_
                    · refine opLeaves_ev HF rfl fun ev zc zg zf zt => ?_
                      have t43 : ev (.tmp 43) = u 15 := zt 43
                      clear zt
                      have h15 : u 15 = _ := hd 15 (by kernel_rfl)
                      exact ev_val (v := .bool false) (by go_simp) rfl
                    refine locals_cons (fun u W hW hd => ?_) ?_
                    · have hG16 : u 16 = _ := hd 16 (by kernel_rfl)
                      refine opLeaves_evG HF rfl rfl hG16 fun ev zc zg zf zt => ?_
                      have t4 : ev (.tmp 4) = .pointer (some ⟨g5, 0, none⟩) := zt 4
                      clear zt
                      have h16 : u 16 = _ := hd 16 (by kernel_rfl)
                      exact ev_val (v := .pointer (some ⟨g5, 3, none⟩)) (by go_simp) rfl
                    refine locals_cons (fun u W hW hd => ?_) ?_
                    · have hG16 : u 16 = _ := hd 16 (by kernel_rfl)
                      refine opLeaves_evG HF rfl rfl hG16 fun ev zc zg zf zt => ?_
                      have t45 : ev (.tmp 45) = u 17 := zt 45
                      clear zt
                      have h16 : u 16 = _ := hd 16 (by kernel_rfl)
                      have h17 : u 17 = _ := hd 17 (by kernel_rfl)
                      have b3 := (B5.ext hW B5.lt).cell 3
                      simp only [List.getElem?_cons_zero, List.getElem?_cons_succ] at b3
                      exact ev_val (v := .slice x.A m x.c) (by go_simp) rfl
                    refine locals_cons (fun u W hW hd => ?_) ?_
                    · have hG16 : u 16 = _ := hd 16 (by kernel_rfl)
                      refine opLeaves_evG HF rfl rfl hG16 fun ev zc zg zf zt => ?_
                      have t46 : ev (.tmp 46) = u 18 := zt 46
                      clear zt
                      have h16 : u 16 = _ := hd 16 (by kernel_rfl)
                      have h18 : u 18 = _ := hd 18 (by kernel_rfl)
                      exact ev_val (v := .int .i64 m) (by go_simp) rfl
                    refine locals_cons (fun u W hW hd => ?_) ?_
                    · have hG16 : u 16 = _ := hd 16 (by kernel_rfl)
                      refine opLeaves_evG HF rfl rfl hG16 fun ev zc zg zf zt => ?_
                      have t47 : ev (.tmp 47) = u 19 := zt 47
                      clear zt
                      have h16 : u 16 = _ := hd 16 (by kernel_rfl)
                      have h19 : u 19 = _ := hd 19 (by kernel_rfl)
                      exact ev_val (v := .bool true) (by go_simp) rfl
                    refine locals_cons (fun u W hW hd => ?_) ?_
                    · refine opLeaves_ev HF rfl fun ev zc zg zf zt => ?_
                      have t44 : ev (.tmp 44) = u 16 := zt 44
                      have t48 : ev (.tmp 48) = u 20 := zt 48
                      clear zt
                      have h16 : u 16 = _ := hd 16 (by kernel_rfl)
                      have h20 : u 20 = _ := hd 20 (by kernel_rfl)
                      exact ev_val (v := .bool true) (by go_simp) rfl
                    refine locals_cons (fun u W hW hd => ?_) ?_
                    · refine opLeaves_ev HF rfl fun ev zc zg zf zt => ?_
                      have t49 : ev (.tmp 49) = u 21 := zt 49
                      clear zt
                      have h21 : u 21 = _ := hd 21 (by kernel_rfl)
                      exact ev_val (v := .bool true) (by go_simp) rfl
                    refine locals_cons (fun u W hW hd => ?_) ?_
                    · have hG22 : u 22 = _ := hd 22 (by kernel_rfl)
                      exact opLeaves_evOff HF rfl rfl hG22 (by intro h; cases h) rfl
                    refine locals_cons (fun u W hW hd => ?_) ?_
                    · have hG22 : u 22 = _ := hd 22 (by kernel_rfl)
                      exact opLeaves_evOff HF rfl rfl hG22 (by intro h; cases h) rfl
                    refine locals_cons (fun u W hW hd => ?_) ?_
                    · have hG22 : u 22 = _ := hd 22 (by kernel_rfl)
                      exact opLeaves_evOff HF rfl rfl hG22 (by intro h; cases h) rfl
                    refine locals_cons (fun u W hW hd => ?_) ?_
                    · have hG25 : u 25 = _ := hd 25 (by kernel_rfl)
                      exact opLeaves_evOff HF rfl rfl hG25 (by intro h; cases h) rfl
                    refine locals_cons (fun u W hW hd => ?_) ?_
                    · have hG25 : u 25 = _ := hd 25 (by kernel_rfl)
                      exact opLeaves_evOff HF rfl rfl hG25 (by intro h; cases h) rfl
                    refine locals_cons (fun u W hW hd => ?_) ?_
                    · have hG25 : u 25 = _ := hd 25 (by kernel_rfl)
                      exact opLeaves_evOff HF rfl rfl hG25 (by intro h; cases h) rfl
                    refine locals_cons (fun u W hW hd => ?_) ?_
                    · have hG25 : u 25 = _ := hd 25 (by kernel_rfl)
                      exact opLeaves_evOff HF rfl rfl hG25 (by intro h; cases h) rfl
                    refine locals_cons (fun u W hW hd => ?_) ?_
                    · have hG25 : u 25 = _ := hd 25 (by kernel_rfl)
                      exact opLeaves_evOff HF rfl rfl hG25 (by intro h; cases h) rfl
                    refine locals_cons (fun u W hW hd => ?_) ?_
                    · have hG25 : u 25 = _ := hd 25 (by kernel_rfl)
                      exact opLeaves_evOff HF rfl rfl hG25 (by intro h; cases h) rfl
                    refine locals_cons (fun u W hW hd => ?_) ?_
                    · have hG25 : u 25 = _ := hd 25 (by kernel_rfl)
                      exact opLeaves_evOff HF rfl rfl hG25 (by intro h; cases h) rfl
                    refine locals_cons (fun u W hW hd => ?_) ?_
                    · have hG25 : u 25 = _ := hd 25 (by kernel_rfl)
                      exact opLeaves_evOff HF rfl rfl hG25 (by intro h; cases h) rfl
                    refine locals_cons (fun u W hW hd => ?_) ?_
                    · have hG25 : u 25 = _ := hd 25 (by kernel_rfl)
                      exact opLeaves_evOff HF rfl rfl hG25 (by intro h; cases h) rfl
                    refine locals_cons (fun u W hW hd => ?_) ?_
                    · have hG25 : u 25 = _ := hd 25 (by kernel_rfl)
                      exact opLeaves_evOff HF rfl rfl hG25 (by intro h; cases h) rfl
                    refine locals_cons (fun u W hW hd => ?_) ?_
                    · have hG25 : u 25 = _ := hd 25 (by kernel_rfl)
                      exact opLeaves_evOff HF rfl rfl hG25 (by intro h; cases h) rfl
                    refine locals_cons (fun u W hW hd => ?_) ?_
                    · have hG22 : u 22 = _ := hd 22 (by kernel_rfl)
                      exact opLeaves_evOff HF rfl rfl hG22 (by intro h; cases h) rfl
                    refine locals_cons (fun u W hW hd => ?_) locals_nil
                    · refine opLeaves_ev HF rfl fun ev zc zg zf zt => ?_
                      have t50 : ev (.tmp 50) = u 22 := zt 50
                      have t65 : ev (.tmp 65) = u 37 := zt 65
                      clear zt
                      have h22 : u 22 = _ := hd 22 (by kernel_rfl)
                      have h37 : u 37 = _ := hd 37 (by kernel_rfl)
                      exact ev_val (v := .bool true) (by go_simp) rfl
                  · intro u7 w7 hW7 hV
                    have h38 : u7 38 = _ := hV 38 (by decide)
                    replace EE := EE.tr hW7
                    clear hV
                    go_simp
                    obtain rfl : rb = false := by rw [← HB.out]; exact bP_no hno
                    clear hno HB
                    go_wp2
                    go_ret
                    exact ⟨rfl, EE⟩
                · have q8 : decide ((8 : Int) < (m : Int)) = false := by simp; omega
                  obtain ⟨cb, hcb⟩ : ∃ cb : Bool, (0 < j ∧ ∃ z, l[j - 1]? = some z ∧ 0 ≤ cmpL z.name x.name) ↔ cb = true := by
                    by_cases h : 0 < j ∧ ∃ z, l[j - 1]? = some z ∧ 0 ≤ cmpL z.name x.name
                    · exact ⟨true, by simp [h]⟩
                    · exact ⟨false, by simp only [h]; simp⟩
                  have HCB := Kp.mk hcb
                  clear hcb
                  go_cut [66] (fun v wx => v = .bool cb ∧ Ext w wx ∧ Arr wx w.heap.size 26 [.slice (some ⟨b, off, none⟩) n c, .int .i64 ser] ∧ Arr wx g5 47 [.string (ofL x.name), .int .i64 x.ep, .int .i64 x.nx, .slice x.A m x.c])
                  case first =>
                    by_cases hj0 : 0 < j
                    · obtain ⟨ip, hi⟩ : ∃ i, j - 1 = i := ⟨_, rfl⟩
                      obtain ⟨z, hz⟩ : ∃ z, l[ip]? = some z := ⟨_, List.getElem?_eq_getElem (by rw [HN.out]; omega)⟩
                      have hw1 : IntKind.i64.wrap ((j : Int) - 1) = (ip : Int) := by rw [show (j : Int) - 1 = (ip : Int) by omega]; exact IntWalk.i64_in _ (by omega)
                      have HW1 := Kp.mk hw1
                      have hin : ip < n := by omega
                      have hzn := (HK.out z (List.mem_of_getElem? hz)).2.2
                      have HZC := Kp.mk (fun W (hW : Ext V5 W) => (HCL2.out ip z hz W (EE.tr hW)).1)
                      obtain ⟨cm, hcm⟩ : ∃ cm, cmpL z.name x.name = cm := ⟨_, rfl⟩
                      have cC := Kp.mk (fun W => rcmpL_any z.name x.name W hzn hn1000)
                      rw [hcm] at cC
                      have q24 : decide ((0 : Int) < (j : Int)) = true := by simp; exact hj0
                      by_cases hc0 : 0 ≤ cm
                      · have q36 : decide ((0 : Int) ≤ cm) = true := decide_eq_true hc0
                        obtain rfl : cb = true := HCB.out.1 ⟨hj0, z, by rw [hi]; exact hz, by rw [hcm]; exact hc0⟩
                        clear hw1 hi hz hzn hcm hc0
                        refine wp_region_localsE (fun i v W => match i with
                          | 0 => v = .pointer (some ⟨g5, 0, none⟩)
                          | 1 => v = .string (ofL x.name)
                          | 2 => v = .bool true
                          | 3 => v = .bool false
                          | 4 => v = .bool false
                          | 5 => v = .pointer (some ⟨g5, 1, none⟩)
                          | 6 => v = .int .i64 x.ep
                          | 7 => v = .bool true
                          | 8 => v = .bool false
                          | 9 => v = .bool false
                          | 10 => v = .bool false
                          | 11 => v = .pointer (some ⟨g5, 2, none⟩)
                          | 12 => v = .int .i64 x.nx
                          | 13 => v = .bool true
                          | 14 => v = .bool false
                          | 15 => v = .bool false
                          | 16 => v = .bool false
                          | 17 => v = .pointer (some ⟨g5, 3, none⟩)
                          | 18 => v = .slice x.A m x.c
                          | 19 => v = .int .i64 m
                          | 20 => v = .bool false
                          | 21 => v = .bool false
                          | 22 => v = .bool false
                          | 23 => v = .int .i64 j
                          | 24 => v = .bool true
                          | 25 => v = .bool true
                          | 26 => v = .pointer (some ⟨w.heap.size, 0, none⟩)
                          | 27 => v = .slice (some ⟨b, off, none⟩) n c
                          | 28 => v = .int .i64 j
                          | 29 => v = .int .i64 ip
                          | 30 => v = .pointer (some ⟨b, off + ip * 4, none⟩)
                          | 31 => v = .pointer (some ⟨b, off + ip * 4, none⟩)
                          | 32 => v = .string (ofL z.name)
                          | 33 => v = .pointer (some ⟨g5, 0, none⟩)
                          | 34 => v = .string (ofL x.name)
                          | 35 => v = .int .i64 cm
                          | 36 => v = .bool true
                          | 37 => v = .bool true
                          | 38 => v = .bool true
                          | _ => True) (by kernel_rfl) (by kernel_rfl) (by kernel_rfl) (by kernel_rfl) ?_ ?_ ?_
                        · intro i v W1 W2 e1 e2 h
                          match i, h with
                          | 0, h => exact h
                          | 1, h => exact h
                          | 2, h => exact h
                          | 3, h => exact h
                          | 4, h => exact h
                          | 5, h => exact h
                          | 6, h => exact h
                          | 7, h => exact h
                          | 8, h => exact h
                          | 9, h => exact h
                          | 10, h => exact h
                          | 11, h => exact h
                          | 12, h => exact h
                          | 13, h => exact h
                          | 14, h => exact h
                          | 15, h => exact h
                          | 16, h => exact h
                          | 17, h => exact h
                          | 18, h => exact h
                          | 19, h => exact h
                          | 20, h => exact h
                          | 21, h => exact h
                          | 22, h => exact h
                          | 23, h => exact h
                          | 24, h => exact h
                          | 25, h => exact h
                          | 26, h => exact h
                          | 27, h => exact h
                          | 28, h => exact h
                          | 29, h => exact h
                          | 30, h => exact h
                          | 31, h => exact h
                          | 32, h => exact h
                          | 33, h => exact h
                          | 34, h => exact h
                          | 35, h => exact h
                          | 36, h => exact h
                          | 37, h => exact h
                          | 38, h => exact h
                          | (i + 39), h => exact h
                        · intro HF
                          refine locals_cons (fun u W hW hd => ?_) ?_
                          · refine opLeaves_ev HF rfl fun ev zc zg zf zt => ?_
                            have t4 : ev (.tmp 4) = .pointer (some ⟨g5, 0, none⟩) := zt 4
                            clear zt
                            exact ev_val (v := .pointer (some ⟨g5, 0, none⟩)) (by go_simp) rfl
                          refine locals_cons (fun u W hW hd => ?_) ?_
                          · refine opLeaves_ev HF rfl fun ev zc zg zf zt => ?_
                            have t28 : ev (.tmp 28) = u 0 := zt 28
                            clear zt
                            have h0 : u 0 = _ := hd 0 (by kernel_rfl)
                            have b0 := (B5.ext hW B5.lt).cell 0
                            simp only [List.getElem?_cons_zero] at b0
                            exact ev_val (v := .string (ofL x.name)) (by go_simp) rfl
                          refine locals_cons (fun u W hW hd => ?_) ?_
                          · refine opLeaves_ev HF rfl fun ev zc zg zf zt => ?_
                            have t29 : ev (.tmp 29) = u 1 := zt 29
                            clear zt
                            have h1 : u 1 = _ := hd 1 (by kernel_rfl)
                            exact ev_call (f := 57) (args := #[.string (ofL x.name)]) (by go_simp) ((cW.out W).mono (by rintro e9 W9 ⟨rfl, h9⟩; exact ⟨_, rfl, h9, rfl⟩))
                          refine locals_cons (fun u W hW hd => ?_) ?_
                          · refine opLeaves_ev HF rfl fun ev zc zg zf zt => ?_
                            have t30 : ev (.tmp 30) = u 2 := zt 30
                            clear zt
                            have h2 : u 2 = _ := hd 2 (by kernel_rfl)
                            exact ev_val (v := .bool false) (by go_simp) rfl
                          refine locals_cons (fun u W hW hd => ?_) ?_
                          · refine opLeaves_ev HF rfl fun ev zc zg zf zt => ?_
                            have t31 : ev (.tmp 31) = u 3 := zt 31
                            clear zt
                            have h3 : u 3 = _ := hd 3 (by kernel_rfl)
                            exact ev_val (v := .bool false) (by go_simp) rfl
                          refine locals_cons (fun u W hW hd => ?_) ?_
                          · have hG4 : u 4 = _ := hd 4 (by kernel_rfl)
                            refine opLeaves_evG HF rfl rfl hG4 fun ev zc zg zf zt => ?_
                            have t4 : ev (.tmp 4) = .pointer (some ⟨g5, 0, none⟩) := zt 4
                            clear zt
                            have h4 : u 4 = _ := hd 4 (by kernel_rfl)
                            exact ev_val (v := .pointer (some ⟨g5, 1, none⟩)) (by go_simp) rfl
                          refine locals_cons (fun u W hW hd => ?_) ?_
                          · have hG4 : u 4 = _ := hd 4 (by kernel_rfl)
                            refine opLeaves_evG HF rfl rfl hG4 fun ev zc zg zf zt => ?_
                            have t33 : ev (.tmp 33) = u 5 := zt 33
                            clear zt
                            have h4 : u 4 = _ := hd 4 (by kernel_rfl)
                            have h5 : u 5 = _ := hd 5 (by kernel_rfl)
                            have b1 := (B5.ext hW B5.lt).cell 1
                            simp only [List.getElem?_cons_zero, List.getElem?_cons_succ] at b1
                            exact ev_val (v := .int .i64 x.ep) (by go_simp) rfl
                          refine locals_cons (fun u W hW hd => ?_) ?_
                          · have hG4 : u 4 = _ := hd 4 (by kernel_rfl)
                            refine opLeaves_evG HF rfl rfl hG4 fun ev zc zg zf zt => ?_
                            have t34 : ev (.tmp 34) = u 6 := zt 34
                            clear zt
                            have h4 : u 4 = _ := hd 4 (by kernel_rfl)
                            have h6 : u 6 = _ := hd 6 (by kernel_rfl)
                            exact ev_call (f := 56) (args := #[.int .i64 x.ep, .int .i64 0]) (by go_simp) ((cE.out W).mono (by rintro e9 W9 ⟨rfl, h9⟩; exact ⟨_, rfl, h9, rfl⟩))
                          refine locals_cons (fun u W hW hd => ?_) ?_
                          · have hG4 : u 4 = _ := hd 4 (by kernel_rfl)
                            refine opLeaves_evG HF rfl rfl hG4 fun ev zc zg zf zt => ?_
                            have t35 : ev (.tmp 35) = u 7 := zt 35
                            clear zt
                            have h4 : u 4 = _ := hd 4 (by kernel_rfl)
                            have h7 : u 7 = _ := hd 7 (by kernel_rfl)
                            exact ev_val (v := .bool false) (by go_simp) rfl
                          refine locals_cons (fun u W hW hd => ?_) ?_
                          · refine opLeaves_ev HF rfl fun ev zc zg zf zt => ?_
                            have t32 : ev (.tmp 32) = u 4 := zt 32
                            have t36 : ev (.tmp 36) = u 8 := zt 36
                            clear zt
                            have h4 : u 4 = _ := hd 4 (by kernel_rfl)
                            have h8 : u 8 = _ := hd 8 (by kernel_rfl)
                            exact ev_val (v := .bool false) (by go_simp) rfl
                          refine locals_cons (fun u W hW hd => ?_) ?_
                          · refine opLeaves_ev HF rfl fun ev zc zg zf zt => ?_
                            have t37 : ev (.tmp 37) = u 9 := zt 37
                            clear zt
                            have h9 : u 9 = _ := hd 9 (by kernel_rfl)
                            exact ev_val (v := .bool false) (by go_simp) rfl
                          refine locals_cons (fun u W hW hd => ?_) ?_
                          · have hG10 : u 10 = _ := hd 10 (by kernel_rfl)
                            refine opLeaves_evG HF rfl rfl hG10 fun ev zc zg zf zt => ?_
                            have t4 : ev (.tmp 4) = .pointer (some ⟨g5, 0, none⟩) := zt 4
                            clear zt
                            have h10 : u 10 = _ := hd 10 (by kernel_rfl)
                            exact ev_val (v := .pointer (some ⟨g5, 2, none⟩)) (by go_simp) rfl
                          refine locals_cons (fun u W hW hd => ?_) ?_
                          · have hG10 : u 10 = _ := hd 10 (by kernel_rfl)
                            refine opLeaves_evG HF rfl rfl hG10 fun ev zc zg zf zt => ?_
                            have t39 : ev (.tmp 39) = u 11 := zt 39
                            clear zt
                            have h10 : u 10 = _ := hd 10 (by kernel_rfl)
                            have h11 : u 11 = _ := hd 11 (by kernel_rfl)
                            have b2 := (B5.ext hW B5.lt).cell 2
                            simp only [List.getElem?_cons_zero, List.getElem?_cons_succ] at b2
                            exact ev_val (v := .int .i64 x.nx) (by go_simp) rfl
                          refine locals_cons (fun u W hW hd => ?_) ?_
                          · have hG10 : u 10 = _ := hd 10 (by kernel_rfl)
                            refine opLeaves_evG HF rfl rfl hG10 fun ev zc zg zf zt => ?_
                            have t40 : ev (.tmp 40) = u 12 := zt 40
                            clear zt
                            have h10 : u 10 = _ := hd 10 (by kernel_rfl)
                            have h12 : u 12 = _ := hd 12 (by kernel_rfl)
                            exact ev_call (f := 56) (args := #[.int .i64 x.nx, .int .i64 1]) (by go_simp) ((cX.out W).mono (by rintro e9 W9 ⟨rfl, h9⟩; exact ⟨_, rfl, h9, rfl⟩))
                          refine locals_cons (fun u W hW hd => ?_) ?_
                          · have hG10 : u 10 = _ := hd 10 (by kernel_rfl)
                            refine opLeaves_evG HF rfl rfl hG10 fun ev zc zg zf zt => ?_
                            have t41 : ev (.tmp 41) = u 13 := zt 41
                            clear zt
                            have h10 : u 10 = _ := hd 10 (by kernel_rfl)
                            have h13 : u 13 = _ := hd 13 (by kernel_rfl)
                            exact ev_val (v := .bool false) (by go_simp) rfl
                          refine locals_cons (fun u W hW hd => ?_) ?_
                          · refine opLeaves_ev HF rfl fun ev zc zg zf zt => ?_
                            have t38 : ev (.tmp 38) = u 10 := zt 38
                            have t42 : ev (.tmp 42) = u 14 := zt 42
                            clear zt
                            have h10 : u 10 = _ := hd 10 (by kernel_rfl)
                            have h14 : u 14 = _ := hd 14 (by kernel_rfl)
                            exact ev_val (v := .bool false) (by go_simp) rfl
                          refine locals_cons (fun u W hW hd => ?_) ?_
                          · refine opLeaves_ev HF rfl fun ev zc zg zf zt => ?_
                            have t43 : ev (.tmp 43) = u 15 := zt 43
                            clear zt
                            have h15 : u 15 = _ := hd 15 (by kernel_rfl)
                            exact ev_val (v := .bool false) (by go_simp) rfl
                          refine locals_cons (fun u W hW hd => ?_) ?_
                          · have hG16 : u 16 = _ := hd 16 (by kernel_rfl)
                            refine opLeaves_evG HF rfl rfl hG16 fun ev zc zg zf zt => ?_
                            have t4 : ev (.tmp 4) = .pointer (some ⟨g5, 0, none⟩) := zt 4
                            clear zt
                            have h16 : u 16 = _ := hd 16 (by kernel_rfl)
                            exact ev_val (v := .pointer (some ⟨g5, 3, none⟩)) (by go_simp) rfl
                          refine locals_cons (fun u W hW hd => ?_) ?_
                          · have hG16 : u 16 = _ := hd 16 (by kernel_rfl)
                            refine opLeaves_evG HF rfl rfl hG16 fun ev zc zg zf zt => ?_
                            have t45 : ev (.tmp 45) = u 17 := zt 45
                            clear zt
                            have h16 : u 16 = _ := hd 16 (by kernel_rfl)
                            have h17 : u 17 = _ := hd 17 (by kernel_rfl)
                            have b3 := (B5.ext hW B5.lt).cell 3
                            simp only [List.getElem?_cons_zero, List.getElem?_cons_succ] at b3
                            exact ev_val (v := .slice x.A m x.c) (by go_simp) rfl
                          refine locals_cons (fun u W hW hd => ?_) ?_
                          · have hG16 : u 16 = _ := hd 16 (by kernel_rfl)
                            refine opLeaves_evG HF rfl rfl hG16 fun ev zc zg zf zt => ?_
                            have t46 : ev (.tmp 46) = u 18 := zt 46
                            clear zt
                            have h16 : u 16 = _ := hd 16 (by kernel_rfl)
                            have h18 : u 18 = _ := hd 18 (by kernel_rfl)
                            exact ev_val (v := .int .i64 m) (by go_simp) rfl
                          refine locals_cons (fun u W hW hd => ?_) ?_
                          · have hG16 : u 16 = _ := hd 16 (by kernel_rfl)
                            refine opLeaves_evG HF rfl rfl hG16 fun ev zc zg zf zt => ?_
                            have t47 : ev (.tmp 47) = u 19 := zt 47
                            clear zt
                            have h16 : u 16 = _ := hd 16 (by kernel_rfl)
                            have h19 : u 19 = _ := hd 19 (by kernel_rfl)
                            exact ev_val (v := .bool false) (by go_simp) rfl
                          refine locals_cons (fun u W hW hd => ?_) ?_
                          · refine opLeaves_ev HF rfl fun ev zc zg zf zt => ?_
                            have t44 : ev (.tmp 44) = u 16 := zt 44
                            have t48 : ev (.tmp 48) = u 20 := zt 48
                            clear zt
                            have h16 : u 16 = _ := hd 16 (by kernel_rfl)
                            have h20 : u 20 = _ := hd 20 (by kernel_rfl)
                            exact ev_val (v := .bool false) (by go_simp) rfl
                          refine locals_cons (fun u W hW hd => ?_) ?_
                          · refine opLeaves_ev HF rfl fun ev zc zg zf zt => ?_
                            have t49 : ev (.tmp 49) = u 21 := zt 49
                            clear zt
                            have h21 : u 21 = _ := hd 21 (by kernel_rfl)
                            exact ev_val (v := .bool false) (by go_simp) rfl
                          refine locals_cons (fun u W hW hd => ?_) ?_
                          · have hG22 : u 22 = _ := hd 22 (by kernel_rfl)
                            refine opLeaves_evG HF rfl rfl hG22 fun ev zc zg zf zt => ?_
                            have t3 : ev (.tmp 3) = .int .i64 j := zt 3
                            clear zt
                            have h22 : u 22 = _ := hd 22 (by kernel_rfl)
                            exact ev_val (v := .int .i64 j) (by go_simp) rfl
                          refine locals_cons (fun u W hW hd => ?_) ?_
                          · have hG22 : u 22 = _ := hd 22 (by kernel_rfl)
                            refine opLeaves_evG HF rfl rfl hG22 fun ev zc zg zf zt => ?_
                            have t51 : ev (.tmp 51) = u 23 := zt 51
                            clear zt
                            have h22 : u 22 = _ := hd 22 (by kernel_rfl)
                            have h23 : u 23 = _ := hd 23 (by kernel_rfl)
                            exact ev_val (v := .bool true) (by go_simp) rfl
                          refine locals_cons (fun u W hW hd => ?_) ?_
                          · have hG22 : u 22 = _ := hd 22 (by kernel_rfl)
                            refine opLeaves_evG HF rfl rfl hG22 fun ev zc zg zf zt => ?_
                            have t52 : ev (.tmp 52) = u 24 := zt 52
                            clear zt
                            have h22 : u 22 = _ := hd 22 (by kernel_rfl)
                            have h24 : u 24 = _ := hd 24 (by kernel_rfl)
                            exact ev_val (v := .bool true) (by go_simp) rfl
                          refine locals_cons (fun u W hW hd => ?_) ?_
                          · have hG25 : u 25 = _ := hd 25 (by kernel_rfl)
                            refine opLeaves_evG HF rfl rfl hG25 fun ev zc zg zf zt => ?_
                            have t1 : ev (.tmp 1) = .pointer (some ⟨w.heap.size, 0, none⟩) := zt 1
                            clear zt
                            have h25 : u 25 = _ := hd 25 (by kernel_rfl)
                            exact ev_val (v := .pointer (some ⟨w.heap.size, 0, none⟩)) (by go_simp) rfl
                          refine locals_cons (fun u W hW hd => ?_) ?_
                          · have hG25 : u 25 = _ := hd 25 (by kernel_rfl)
                            refine opLeaves_evG HF rfl rfl hG25 fun ev zc zg zf zt => ?_
                            have t54 : ev (.tmp 54) = u 26 := zt 54
                            clear zt
                            have h25 : u 25 = _ := hd 25 (by kernel_rfl)
                            have h26 : u 26 = _ := hd 26 (by kernel_rfl)
                            have s0 := (AS5.ext hW AS5.lt).cell 0
                            simp only [List.getElem?_cons_zero] at s0
                            exact ev_val (v := .slice (some ⟨b, off, none⟩) n c) (by go_simp) rfl
                          refine locals_cons (fun u W hW hd => ?_) ?_
                          · have hG25 : u 25 = _ := hd 25 (by kernel_rfl)
                            refine opLeaves_evG HF rfl rfl hG25 fun ev zc zg zf zt => ?_
                            have t3 : ev (.tmp 3) = .int .i64 j := zt 3
                            clear zt
                            have h25 : u 25 = _ := hd 25 (by kernel_rfl)
                            exact ev_val (v := .int .i64 j) (by go_simp) rfl
                          refine locals_cons (fun u W hW hd => ?_) ?_
                          · have hG25 : u 25 = _ := hd 25 (by kernel_rfl)
                            refine opLeaves_evG HF rfl rfl hG25 fun ev zc zg zf zt => ?_
                            have t56 : ev (.tmp 56) = u 28 := zt 56
                            clear zt
                            have h25 : u 25 = _ := hd 25 (by kernel_rfl)
                            have h28 : u 28 = _ := hd 28 (by kernel_rfl)
                            have hw1 := HW1.out
                            exact ev_val (v := .int .i64 ip) (by go_simp) rfl
                          refine locals_cons (fun u W hW hd => ?_) ?_
                          · have hG25 : u 25 = _ := hd 25 (by kernel_rfl)
                            refine opLeaves_evG HF rfl rfl hG25 fun ev zc zg zf zt => ?_
                            have t55 : ev (.tmp 55) = u 27 := zt 55
                            have t57 : ev (.tmp 57) = u 29 := zt 57
                            clear zt
                            have h25 : u 25 = _ := hd 25 (by kernel_rfl)
                            have h27 : u 27 = _ := hd 27 (by kernel_rfl)
                            have h29 : u 29 = _ := hd 29 (by kernel_rfl)
                            exact ev_val (v := .pointer (some ⟨b, off + ip * 4, none⟩)) (by go_simp) rfl
                          refine locals_cons (fun u W hW hd => ?_) ?_
                          · have hG25 : u 25 = _ := hd 25 (by kernel_rfl)
                            refine opLeaves_evG HF rfl rfl hG25 fun ev zc zg zf zt => ?_
                            have t58 : ev (.tmp 58) = u 30 := zt 58
                            clear zt
                            have h25 : u 25 = _ := hd 25 (by kernel_rfl)
                            have h30 : u 30 = _ := hd 30 (by kernel_rfl)
                            exact ev_val (v := .pointer (some ⟨b, off + ip * 4, none⟩)) (by go_simp) rfl
                          refine locals_cons (fun u W hW hd => ?_) ?_
                          · have hG25 : u 25 = _ := hd 25 (by kernel_rfl)
                            refine opLeaves_evG HF rfl rfl hG25 fun ev zc zg zf zt => ?_
                            have t59 : ev (.tmp 59) = u 31 := zt 59
                            clear zt
                            have h25 : u 25 = _ := hd 25 (by kernel_rfl)
                            have h31 : u 31 = _ := hd 31 (by kernel_rfl)
                            have z0 := HZC.out W hW
                            exact ev_val (v := .string (ofL z.name)) (by go_simp) rfl
                          refine locals_cons (fun u W hW hd => ?_) ?_
                          · have hG25 : u 25 = _ := hd 25 (by kernel_rfl)
                            refine opLeaves_evG HF rfl rfl hG25 fun ev zc zg zf zt => ?_
                            have t4 : ev (.tmp 4) = .pointer (some ⟨g5, 0, none⟩) := zt 4
                            clear zt
                            have h25 : u 25 = _ := hd 25 (by kernel_rfl)
                            exact ev_val (v := .pointer (some ⟨g5, 0, none⟩)) (by go_simp) rfl
                          refine locals_cons (fun u W hW hd => ?_) ?_
                          · have hG25 : u 25 = _ := hd 25 (by kernel_rfl)
                            refine opLeaves_evG HF rfl rfl hG25 fun ev zc zg zf zt => ?_
                            have t61 : ev (.tmp 61) = u 33 := zt 61
                            clear zt
                            have h25 : u 25 = _ := hd 25 (by kernel_rfl)
                            have h33 : u 33 = _ := hd 33 (by kernel_rfl)
                            have b0 := (B5.ext hW B5.lt).cell 0
                            simp only [List.getElem?_cons_zero] at b0
                            exact ev_val (v := .string (ofL x.name)) (by go_simp) rfl
                          refine locals_cons (fun u W hW hd => ?_) ?_
                          · have hG25 : u 25 = _ := hd 25 (by kernel_rfl)
                            refine opLeaves_evG HF rfl rfl hG25 fun ev zc zg zf zt => ?_
                            have t60 : ev (.tmp 60) = u 32 := zt 60
                            have t62 : ev (.tmp 62) = u 34 := zt 62
                            clear zt
                            have h25 : u 25 = _ := hd 25 (by kernel_rfl)
                            have h32 : u 32 = _ := hd 32 (by kernel_rfl)
                            have h34 : u 34 = _ := hd 34 (by kernel_rfl)
                            exact ev_call (f := 58) (args := #[.string (ofL z.name), .string (ofL x.name)]) (by go_simp) ((cC.out W).mono (by rintro e9 W9 ⟨rfl, h9⟩; exact ⟨_, rfl, h9, rfl⟩))
                          refine locals_cons (fun u W hW hd => ?_) ?_
                          · have hG25 : u 25 = _ := hd 25 (by kernel_rfl)
                            refine opLeaves_evG HF rfl rfl hG25 fun ev zc zg zf zt => ?_
                            have t63 : ev (.tmp 63) = u 35 := zt 63
                            clear zt
                            have h25 : u 25 = _ := hd 25 (by kernel_rfl)
                            have h35 : u 35 = _ := hd 35 (by kernel_rfl)
                            exact ev_val (v := .bool true) (by go_simp) rfl
                          refine locals_cons (fun u W hW hd => ?_) ?_
                          · have hG22 : u 22 = _ := hd 22 (by kernel_rfl)
                            refine opLeaves_evG HF rfl rfl hG22 fun ev zc zg zf zt => ?_
                            have t53 : ev (.tmp 53) = u 25 := zt 53
                            have t64 : ev (.tmp 64) = u 36 := zt 64
                            clear zt
                            have h22 : u 22 = _ := hd 22 (by kernel_rfl)
                            have h25 : u 25 = _ := hd 25 (by kernel_rfl)
                            have h36 : u 36 = _ := hd 36 (by kernel_rfl)
                            exact ev_val (v := .bool true) (by go_simp) rfl
                          refine locals_cons (fun u W hW hd => ?_) locals_nil
                          · refine opLeaves_ev HF rfl fun ev zc zg zf zt => ?_
                            have t50 : ev (.tmp 50) = u 22 := zt 50
                            have t65 : ev (.tmp 65) = u 37 := zt 65
                            clear zt
                            have h22 : u 22 = _ := hd 22 (by kernel_rfl)
                            have h37 : u 37 = _ := hd 37 (by kernel_rfl)
                            exact ev_val (v := .bool true) (by go_simp) rfl
                        · intro u7 w7 hW7 hV
                          have h38 : u7 38 = _ := hV 38 (by decide)
                          have G1 := EE.tr hW7
                          have G2 := AS5.ext hW7 AS5.lt
                          have G3 := B5.ext hW7 B5.lt
                          clear hV
                          go_simp
                          go_wp2_with fail
                          go_meet
                          exact ⟨by go_simp, G1, G2, G3⟩
                      · have q36 : decide ((0 : Int) ≤ cm) = false := decide_eq_false hc0
                        obtain rfl : cb = false := by
                          cases cb with
                          | false => rfl
                          | true =>
                            obtain ⟨_, z', hz', h0⟩ := HCB.out.2 rfl
                            rw [hi, hz] at hz'
                            obtain rfl := Option.some.inj hz'
                            rw [hcm] at h0
                            exact absurd h0 hc0
                        clear hw1 hi hz hzn hcm hc0
                        refine wp_region_localsE (fun i v W => match i with
                          | 0 => v = .pointer (some ⟨g5, 0, none⟩)
                          | 1 => v = .string (ofL x.name)
                          | 2 => v = .bool true
                          | 3 => v = .bool false
                          | 4 => v = .bool false
                          | 5 => v = .pointer (some ⟨g5, 1, none⟩)
                          | 6 => v = .int .i64 x.ep
                          | 7 => v = .bool true
                          | 8 => v = .bool false
                          | 9 => v = .bool false
                          | 10 => v = .bool false
                          | 11 => v = .pointer (some ⟨g5, 2, none⟩)
                          | 12 => v = .int .i64 x.nx
                          | 13 => v = .bool true
                          | 14 => v = .bool false
                          | 15 => v = .bool false
                          | 16 => v = .bool false
                          | 17 => v = .pointer (some ⟨g5, 3, none⟩)
                          | 18 => v = .slice x.A m x.c
                          | 19 => v = .int .i64 m
                          | 20 => v = .bool false
                          | 21 => v = .bool false
                          | 22 => v = .bool false
                          | 23 => v = .int .i64 j
                          | 24 => v = .bool true
                          | 25 => v = .bool true
                          | 26 => v = .pointer (some ⟨w.heap.size, 0, none⟩)
                          | 27 => v = .slice (some ⟨b, off, none⟩) n c
                          | 28 => v = .int .i64 j
                          | 29 => v = .int .i64 ip
                          | 30 => v = .pointer (some ⟨b, off + ip * 4, none⟩)
                          | 31 => v = .pointer (some ⟨b, off + ip * 4, none⟩)
                          | 32 => v = .string (ofL z.name)
                          | 33 => v = .pointer (some ⟨g5, 0, none⟩)
                          | 34 => v = .string (ofL x.name)
                          | 35 => v = .int .i64 cm
                          | 36 => v = .bool false
                          | 37 => v = .bool false
                          | 38 => v = .bool false
                          | _ => True) (by kernel_rfl) (by kernel_rfl) (by kernel_rfl) (by kernel_rfl) ?_ ?_ ?_
                        · intro i v W1 W2 e1 e2 h
                          match i, h with
                          | 0, h => exact h
                          | 1, h => exact h
                          | 2, h => exact h
                          | 3, h => exact h
                          | 4, h => exact h
                          | 5, h => exact h
                          | 6, h => exact h
                          | 7, h => exact h
                          | 8, h => exact h
                          | 9, h => exact h
                          | 10, h => exact h
                          | 11, h => exact h
                          | 12, h => exact h
                          | 13, h => exact h
                          | 14, h => exact h
                          | 15, h => exact h
                          | 16, h => exact h
                          | 17, h => exact h
                          | 18, h => exact h
                          | 19, h => exact h
                          | 20, h => exact h
                          | 21, h => exact h
                          | 22, h => exact h
                          | 23, h => exact h
                          | 24, h => exact h
                          | 25, h => exact h
                          | 26, h => exact h
                          | 27, h => exact h
                          | 28, h => exact h
                          | 29, h => exact h
                          | 30, h => exact h
                          | 31, h => exact h
                          | 32, h => exact h
                          | 33, h => exact h
                          | 34, h => exact h
                          | 35, h => exact h
                          | 36, h => exact h
                          | 37, h => exact h
                          | 38, h => exact h
                          | (i + 39), h => exact h
                        · intro HF
                          refine locals_cons (fun u W hW hd => ?_) ?_
                          · refine opLeaves_ev HF rfl fun ev zc zg zf zt => ?_
                            have t4 : ev (.tmp 4) = .pointer (some ⟨g5, 0, none⟩) := zt 4
                            clear zt
                            exact ev_val (v := .pointer (some ⟨g5, 0, none⟩)) (by go_simp) rfl
                          refine locals_cons (fun u W hW hd => ?_) ?_
                          · refine opLeaves_ev HF rfl fun ev zc zg zf zt => ?_
                            have t28 : ev (.tmp 28) = u 0 := zt 28
                            clear zt
                            have h0 : u 0 = _ := hd 0 (by kernel_rfl)
                            have b0 := (B5.ext hW B5.lt).cell 0
                            simp only [List.getElem?_cons_zero] at b0
                            exact ev_val (v := .string (ofL x.name)) (by go_simp) rfl
                          refine locals_cons (fun u W hW hd => ?_) ?_
                          · refine opLeaves_ev HF rfl fun ev zc zg zf zt => ?_
                            have t29 : ev (.tmp 29) = u 1 := zt 29
                            clear zt
                            have h1 : u 1 = _ := hd 1 (by kernel_rfl)
                            exact ev_call (f := 57) (args := #[.string (ofL x.name)]) (by go_simp) ((cW.out W).mono (by rintro e9 W9 ⟨rfl, h9⟩; exact ⟨_, rfl, h9, rfl⟩))
                          refine locals_cons (fun u W hW hd => ?_) ?_
                          · refine opLeaves_ev HF rfl fun ev zc zg zf zt => ?_
                            have t30 : ev (.tmp 30) = u 2 := zt 30
                            clear zt
                            have h2 : u 2 = _ := hd 2 (by kernel_rfl)
                            exact ev_val (v := .bool false) (by go_simp) rfl
                          refine locals_cons (fun u W hW hd => ?_) ?_
                          · refine opLeaves_ev HF rfl fun ev zc zg zf zt => ?_
                            have t31 : ev (.tmp 31) = u 3 := zt 31
                            clear zt
                            have h3 : u 3 = _ := hd 3 (by kernel_rfl)
                            exact ev_val (v := .bool false) (by go_simp) rfl
                          refine locals_cons (fun u W hW hd => ?_) ?_
                          · have hG4 : u 4 = _ := hd 4 (by kernel_rfl)
                            refine opLeaves_evG HF rfl rfl hG4 fun ev zc zg zf zt => ?_
                            have t4 : ev (.tmp 4) = .pointer (some ⟨g5, 0, none⟩) := zt 4
                            clear zt
                            have h4 : u 4 = _ := hd 4 (by kernel_rfl)
                            exact ev_val (v := .pointer (some ⟨g5, 1, none⟩)) (by go_simp) rfl
                          refine locals_cons (fun u W hW hd => ?_) ?_
                          · have hG4 : u 4 = _ := hd 4 (by kernel_rfl)
                            refine opLeaves_evG HF rfl rfl hG4 fun ev zc zg zf zt => ?_
                            have t33 : ev (.tmp 33) = u 5 := zt 33
                            clear zt
                            have h4 : u 4 = _ := hd 4 (by kernel_rfl)
                            have h5 : u 5 = _ := hd 5 (by kernel_rfl)
                            have b1 := (B5.ext hW B5.lt).cell 1
                            simp only [List.getElem?_cons_zero, List.getElem?_cons_succ] at b1
                            exact ev_val (v := .int .i64 x.ep) (by go_simp) rfl
                          refine locals_cons (fun u W hW hd => ?_) ?_
                          · have hG4 : u 4 = _ := hd 4 (by kernel_rfl)
                            refine opLeaves_evG HF rfl rfl hG4 fun ev zc zg zf zt => ?_
                            have t34 : ev (.tmp 34) = u 6 := zt 34
                            clear zt
                            have h4 : u 4 = _ := hd 4 (by kernel_rfl)
                            have h6 : u 6 = _ := hd 6 (by kernel_rfl)
                            exact ev_call (f := 56) (args := #[.int .i64 x.ep, .int .i64 0]) (by go_simp) ((cE.out W).mono (by rintro e9 W9 ⟨rfl, h9⟩; exact ⟨_, rfl, h9, rfl⟩))
                          refine locals_cons (fun u W hW hd => ?_) ?_
                          · have hG4 : u 4 = _ := hd 4 (by kernel_rfl)
                            refine opLeaves_evG HF rfl rfl hG4 fun ev zc zg zf zt => ?_
                            have t35 : ev (.tmp 35) = u 7 := zt 35
                            clear zt
                            have h4 : u 4 = _ := hd 4 (by kernel_rfl)
                            have h7 : u 7 = _ := hd 7 (by kernel_rfl)
                            exact ev_val (v := .bool false) (by go_simp) rfl
                          refine locals_cons (fun u W hW hd => ?_) ?_
                          · refine opLeaves_ev HF rfl fun ev zc zg zf zt => ?_
                            have t32 : ev (.tmp 32) = u 4 := zt 32
                            have t36 : ev (.tmp 36) = u 8 := zt 36
                            clear zt
                            have h4 : u 4 = _ := hd 4 (by kernel_rfl)
                            have h8 : u 8 = _ := hd 8 (by kernel_rfl)
                            exact ev_val (v := .bool false) (by go_simp) rfl
                          refine locals_cons (fun u W hW hd => ?_) ?_
                          · refine opLeaves_ev HF rfl fun ev zc zg zf zt => ?_
                            have t37 : ev (.tmp 37) = u 9 := zt 37
                            clear zt
                            have h9 : u 9 = _ := hd 9 (by kernel_rfl)
                            exact ev_val (v := .bool false) (by go_simp) rfl
                          refine locals_cons (fun u W hW hd => ?_) ?_
                          · have hG10 : u 10 = _ := hd 10 (by kernel_rfl)
                            refine opLeaves_evG HF rfl rfl hG10 fun ev zc zg zf zt => ?_
                            have t4 : ev (.tmp 4) = .pointer (some ⟨g5, 0, none⟩) := zt 4
                            clear zt
                            have h10 : u 10 = _ := hd 10 (by kernel_rfl)
                            exact ev_val (v := .pointer (some ⟨g5, 2, none⟩)) (by go_simp) rfl
                          refine locals_cons (fun u W hW hd => ?_) ?_
                          · have hG10 : u 10 = _ := hd 10 (by kernel_rfl)
                            refine opLeaves_evG HF rfl rfl hG10 fun ev zc zg zf zt => ?_
                            have t39 : ev (.tmp 39) = u 11 := zt 39
                            clear zt
                            have h10 : u 10 = _ := hd 10 (by kernel_rfl)
                            have h11 : u 11 = _ := hd 11 (by kernel_rfl)
                            have b2 := (B5.ext hW B5.lt).cell 2
                            simp only [List.getElem?_cons_zero, List.getElem?_cons_succ] at b2
                            exact ev_val (v := .int .i64 x.nx) (by go_simp) rfl
                          refine locals_cons (fun u W hW hd => ?_) ?_
                          · have hG10 : u 10 = _ := hd 10 (by kernel_rfl)
                            refine opLeaves_evG HF rfl rfl hG10 fun ev zc zg zf zt => ?_
                            have t40 : ev (.tmp 40) = u 12 := zt 40
                            clear zt
                            have h10 : u 10 = _ := hd 10 (by kernel_rfl)
                            have h12 : u 12 = _ := hd 12 (by kernel_rfl)
                            exact ev_call (f := 56) (args := #[.int .i64 x.nx, .int .i64 1]) (by go_simp) ((cX.out W).mono (by rintro e9 W9 ⟨rfl, h9⟩; exact ⟨_, rfl, h9, rfl⟩))
                          refine locals_cons (fun u W hW hd => ?_) ?_
                          · have hG10 : u 10 = _ := hd 10 (by kernel_rfl)
                            refine opLeaves_evG HF rfl rfl hG10 fun ev zc zg zf zt => ?_
                            have t41 : ev (.tmp 41) = u 13 := zt 41
                            clear zt
                            have h10 : u 10 = _ := hd 10 (by kernel_rfl)
                            have h13 : u 13 = _ := hd 13 (by kernel_rfl)
                            exact ev_val (v := .bool false) (by go_simp) rfl
                          refine locals_cons (fun u W hW hd => ?_) ?_
                          · refine opLeaves_ev HF rfl fun ev zc zg zf zt => ?_
                            have t38 : ev (.tmp 38) = u 10 := zt 38
                            have t42 : ev (.tmp 42) = u 14 := zt 42
                            clear zt
                            have h10 : u 10 = _ := hd 10 (by kernel_rfl)
                            have h14 : u 14 = _ := hd 14 (by kernel_rfl)
                            exact ev_val (v := .bool false) (by go_simp) rfl
                          refine locals_cons (fun u W hW hd => ?_) ?_
                          · refine opLeaves_ev HF rfl fun ev zc zg zf zt => ?_
                            have t43 : ev (.tmp 43) = u 15 := zt 43
                            clear zt
                            have h15 : u 15 = _ := hd 15 (by kernel_rfl)
                            exact ev_val (v := .bool false) (by go_simp) rfl
                          refine locals_cons (fun u W hW hd => ?_) ?_
                          · have hG16 : u 16 = _ := hd 16 (by kernel_rfl)
                            refine opLeaves_evG HF rfl rfl hG16 fun ev zc zg zf zt => ?_
                            have t4 : ev (.tmp 4) = .pointer (some ⟨g5, 0, none⟩) := zt 4
                            clear zt
                            have h16 : u 16 = _ := hd 16 (by kernel_rfl)
                            exact ev_val (v := .pointer (some ⟨g5, 3, none⟩)) (by go_simp) rfl
                          refine locals_cons (fun u W hW hd => ?_) ?_
                          · have hG16 : u 16 = _ := hd 16 (by kernel_rfl)
                            refine opLeaves_evG HF rfl rfl hG16 fun ev zc zg zf zt => ?_
                            have t45 : ev (.tmp 45) = u 17 := zt 45
                            clear zt
                            have h16 : u 16 = _ := hd 16 (by kernel_rfl)
                            have h17 : u 17 = _ := hd 17 (by kernel_rfl)
                            have b3 := (B5.ext hW B5.lt).cell 3
                            simp only [List.getElem?_cons_zero, List.getElem?_cons_succ] at b3
                            exact ev_val (v := .slice x.A m x.c) (by go_simp) rfl
                          refine locals_cons (fun u W hW hd => ?_) ?_
                          · have hG16 : u 16 = _ := hd 16 (by kernel_rfl)
                            refine opLeaves_evG HF rfl rfl hG16 fun ev zc zg zf zt => ?_
                            have t46 : ev (.tmp 46) = u 18 := zt 46
                            clear zt
                            have h16 : u 16 = _ := hd 16 (by kernel_rfl)
                            have h18 : u 18 = _ := hd 18 (by kernel_rfl)
                            exact ev_val (v := .int .i64 m) (by go_simp) rfl
                          refine locals_cons (fun u W hW hd => ?_) ?_
                          · have hG16 : u 16 = _ := hd 16 (by kernel_rfl)
                            refine opLeaves_evG HF rfl rfl hG16 fun ev zc zg zf zt => ?_
                            have t47 : ev (.tmp 47) = u 19 := zt 47
                            clear zt
                            have h16 : u 16 = _ := hd 16 (by kernel_rfl)
                            have h19 : u 19 = _ := hd 19 (by kernel_rfl)
                            exact ev_val (v := .bool false) (by go_simp) rfl
                          refine locals_cons (fun u W hW hd => ?_) ?_
                          · refine opLeaves_ev HF rfl fun ev zc zg zf zt => ?_
                            have t44 : ev (.tmp 44) = u 16 := zt 44
                            have t48 : ev (.tmp 48) = u 20 := zt 48
                            clear zt
                            have h16 : u 16 = _ := hd 16 (by kernel_rfl)
                            have h20 : u 20 = _ := hd 20 (by kernel_rfl)
                            exact ev_val (v := .bool false) (by go_simp) rfl
                          refine locals_cons (fun u W hW hd => ?_) ?_
                          · refine opLeaves_ev HF rfl fun ev zc zg zf zt => ?_
                            have t49 : ev (.tmp 49) = u 21 := zt 49
                            clear zt
                            have h21 : u 21 = _ := hd 21 (by kernel_rfl)
                            exact ev_val (v := .bool false) (by go_simp) rfl
                          refine locals_cons (fun u W hW hd => ?_) ?_
                          · have hG22 : u 22 = _ := hd 22 (by kernel_rfl)
                            refine opLeaves_evG HF rfl rfl hG22 fun ev zc zg zf zt => ?_
                            have t3 : ev (.tmp 3) = .int .i64 j := zt 3
                            clear zt
                            have h22 : u 22 = _ := hd 22 (by kernel_rfl)
                            exact ev_val (v := .int .i64 j) (by go_simp) rfl
                          refine locals_cons (fun u W hW hd => ?_) ?_
                          · have hG22 : u 22 = _ := hd 22 (by kernel_rfl)
                            refine opLeaves_evG HF rfl rfl hG22 fun ev zc zg zf zt => ?_
                            have t51 : ev (.tmp 51) = u 23 := zt 51
                            clear zt
                            have h22 : u 22 = _ := hd 22 (by kernel_rfl)
                            have h23 : u 23 = _ := hd 23 (by kernel_rfl)
                            exact ev_val (v := .bool true) (by go_simp) rfl
                          refine locals_cons (fun u W hW hd => ?_) ?_
                          · have hG22 : u 22 = _ := hd 22 (by kernel_rfl)
                            refine opLeaves_evG HF rfl rfl hG22 fun ev zc zg zf zt => ?_
                            have t52 : ev (.tmp 52) = u 24 := zt 52
                            clear zt
                            have h22 : u 22 = _ := hd 22 (by kernel_rfl)
                            have h24 : u 24 = _ := hd 24 (by kernel_rfl)
                            exact ev_val (v := .bool true) (by go_simp) rfl
                          refine locals_cons (fun u W hW hd => ?_) ?_
                          · have hG25 : u 25 = _ := hd 25 (by kernel_rfl)
                            refine opLeaves_evG HF rfl rfl hG25 fun ev zc zg zf zt => ?_
                            have t1 : ev (.tmp 1) = .pointer (some ⟨w.heap.size, 0, none⟩) := zt 1
                            clear zt
                            have h25 : u 25 = _ := hd 25 (by kernel_rfl)
                            exact ev_val (v := .pointer (some ⟨w.heap.size, 0, none⟩)) (by go_simp) rfl
                          refine locals_cons (fun u W hW hd => ?_) ?_
                          · have hG25 : u 25 = _ := hd 25 (by kernel_rfl)
                            refine opLeaves_evG HF rfl rfl hG25 fun ev zc zg zf zt => ?_
                            have t54 : ev (.tmp 54) = u 26 := zt 54
                            clear zt
                            have h25 : u 25 = _ := hd 25 (by kernel_rfl)
                            have h26 : u 26 = _ := hd 26 (by kernel_rfl)
                            have s0 := (AS5.ext hW AS5.lt).cell 0
                            simp only [List.getElem?_cons_zero] at s0
                            exact ev_val (v := .slice (some ⟨b, off, none⟩) n c) (by go_simp) rfl
                          refine locals_cons (fun u W hW hd => ?_) ?_
                          · have hG25 : u 25 = _ := hd 25 (by kernel_rfl)
                            refine opLeaves_evG HF rfl rfl hG25 fun ev zc zg zf zt => ?_
                            have t3 : ev (.tmp 3) = .int .i64 j := zt 3
                            clear zt
                            have h25 : u 25 = _ := hd 25 (by kernel_rfl)
                            exact ev_val (v := .int .i64 j) (by go_simp) rfl
                          refine locals_cons (fun u W hW hd => ?_) ?_
                          · have hG25 : u 25 = _ := hd 25 (by kernel_rfl)
                            refine opLeaves_evG HF rfl rfl hG25 fun ev zc zg zf zt => ?_
                            have t56 : ev (.tmp 56) = u 28 := zt 56
                            clear zt
                            have h25 : u 25 = _ := hd 25 (by kernel_rfl)
                            have h28 : u 28 = _ := hd 28 (by kernel_rfl)
                            have hw1 := HW1.out
                            exact ev_val (v := .int .i64 ip) (by go_simp) rfl
                          refine locals_cons (fun u W hW hd => ?_) ?_
                          · have hG25 : u 25 = _ := hd 25 (by kernel_rfl)
                            refine opLeaves_evG HF rfl rfl hG25 fun ev zc zg zf zt => ?_
                            have t55 : ev (.tmp 55) = u 27 := zt 55
                            have t57 : ev (.tmp 57) = u 29 := zt 57
                            clear zt
                            have h25 : u 25 = _ := hd 25 (by kernel_rfl)
                            have h27 : u 27 = _ := hd 27 (by kernel_rfl)
                            have h29 : u 29 = _ := hd 29 (by kernel_rfl)
                            exact ev_val (v := .pointer (some ⟨b, off + ip * 4, none⟩)) (by go_simp) rfl
                          refine locals_cons (fun u W hW hd => ?_) ?_
                          · have hG25 : u 25 = _ := hd 25 (by kernel_rfl)
                            refine opLeaves_evG HF rfl rfl hG25 fun ev zc zg zf zt => ?_
                            have t58 : ev (.tmp 58) = u 30 := zt 58
                            clear zt
                            have h25 : u 25 = _ := hd 25 (by kernel_rfl)
                            have h30 : u 30 = _ := hd 30 (by kernel_rfl)
                            exact ev_val (v := .pointer (some ⟨b, off + ip * 4, none⟩)) (by go_simp) rfl
                          refine locals_cons (fun u W hW hd => ?_) ?_
                          · have hG25 : u 25 = _ := hd 25 (by kernel_rfl)
                            refine opLeaves_evG HF rfl rfl hG25 fun ev zc zg zf zt => ?_
                            have t59 : ev (.tmp 59) = u 31 := zt 59
                            clear zt
                            have h25 : u 25 = _ := hd 25 (by kernel_rfl)
                            have h31 : u 31 = _ := hd 31 (by kernel_rfl)
                            have z0 := HZC.out W hW
                            exact ev_val (v := .string (ofL z.name)) (by go_simp) rfl
                          refine locals_cons (fun u W hW hd => ?_) ?_
                          · have hG25 : u 25 = _ := hd 25 (by kernel_rfl)
                            refine opLeaves_evG HF rfl rfl hG25 fun ev zc zg zf zt => ?_
                            have t4 : ev (.tmp 4) = .pointer (some ⟨g5, 0, none⟩) := zt 4
                            clear zt
                            have h25 : u 25 = _ := hd 25 (by kernel_rfl)
                            exact ev_val (v := .pointer (some ⟨g5, 0, none⟩)) (by go_simp) rfl
                          refine locals_cons (fun u W hW hd => ?_) ?_
                          · have hG25 : u 25 = _ := hd 25 (by kernel_rfl)
                            refine opLeaves_evG HF rfl rfl hG25 fun ev zc zg zf zt => ?_
                            have t61 : ev (.tmp 61) = u 33 := zt 61
                            clear zt
                            have h25 : u 25 = _ := hd 25 (by kernel_rfl)
                            have h33 : u 33 = _ := hd 33 (by kernel_rfl)
                            have b0 := (B5.ext hW B5.lt).cell 0
                            simp only [List.getElem?_cons_zero] at b0
                            exact ev_val (v := .string (ofL x.name)) (by go_simp) rfl
                          refine locals_cons (fun u W hW hd => ?_) ?_
                          · have hG25 : u 25 = _ := hd 25 (by kernel_rfl)
                            refine opLeaves_evG HF rfl rfl hG25 fun ev zc zg zf zt => ?_
                            have t60 : ev (.tmp 60) = u 32 := zt 60
                            have t62 : ev (.tmp 62) = u 34 := zt 62
                            clear zt
                            have h25 : u 25 = _ := hd 25 (by kernel_rfl)
                            have h32 : u 32 = _ := hd 32 (by kernel_rfl)
                            have h34 : u 34 = _ := hd 34 (by kernel_rfl)
                            exact ev_call (f := 58) (args := #[.string (ofL z.name), .string (ofL x.name)]) (by go_simp) ((cC.out W).mono (by rintro e9 W9 ⟨rfl, h9⟩; exact ⟨_, rfl, h9, rfl⟩))
                          refine locals_cons (fun u W hW hd => ?_) ?_
                          · have hG25 : u 25 = _ := hd 25 (by kernel_rfl)
                            refine opLeaves_evG HF rfl rfl hG25 fun ev zc zg zf zt => ?_
                            have t63 : ev (.tmp 63) = u 35 := zt 63
                            clear zt
                            have h25 : u 25 = _ := hd 25 (by kernel_rfl)
                            have h35 : u 35 = _ := hd 35 (by kernel_rfl)
                            exact ev_val (v := .bool false) (by go_simp) rfl
                          refine locals_cons (fun u W hW hd => ?_) ?_
                          · have hG22 : u 22 = _ := hd 22 (by kernel_rfl)
                            refine opLeaves_evG HF rfl rfl hG22 fun ev zc zg zf zt => ?_
                            have t53 : ev (.tmp 53) = u 25 := zt 53
                            have t64 : ev (.tmp 64) = u 36 := zt 64
                            clear zt
                            have h22 : u 22 = _ := hd 22 (by kernel_rfl)
                            have h25 : u 25 = _ := hd 25 (by kernel_rfl)
                            have h36 : u 36 = _ := hd 36 (by kernel_rfl)
                            exact ev_val (v := .bool false) (by go_simp) rfl
                          refine locals_cons (fun u W hW hd => ?_) locals_nil
                          · refine opLeaves_ev HF rfl fun ev zc zg zf zt => ?_
                            have t50 : ev (.tmp 50) = u 22 := zt 50
                            have t65 : ev (.tmp 65) = u 37 := zt 65
                            clear zt
                            have h22 : u 22 = _ := hd 22 (by kernel_rfl)
                            have h37 : u 37 = _ := hd 37 (by kernel_rfl)
                            exact ev_val (v := .bool false) (by go_simp) rfl
                        · intro u7 w7 hW7 hV
                          have h38 : u7 38 = _ := hV 38 (by decide)
                          have G1 := EE.tr hW7
                          have G2 := AS5.ext hW7 AS5.lt
                          have G3 := B5.ext hW7 B5.lt
                          clear hV
                          go_simp
                          go_wp2_with fail
                          go_meet
                          exact ⟨by go_simp, G1, G2, G3⟩
                    · have q24 : decide ((0 : Int) < (j : Int)) = false := by simp; omega
                      obtain rfl : cb = false := by
                        cases cb with
                        | false => rfl
                        | true => exact absurd (HCB.out.2 rfl).1 hj0
                      refine wp_region_localsE (fun i v W => match i with
                        | 0 => v = .pointer (some ⟨g5, 0, none⟩)
                        | 1 => v = .string (ofL x.name)
                        | 2 => v = .bool true
                        | 3 => v = .bool false
                        | 4 => v = .bool false
                        | 5 => v = .pointer (some ⟨g5, 1, none⟩)
                        | 6 => v = .int .i64 x.ep
                        | 7 => v = .bool true
                        | 8 => v = .bool false
                        | 9 => v = .bool false
                        | 10 => v = .bool false
                        | 11 => v = .pointer (some ⟨g5, 2, none⟩)
                        | 12 => v = .int .i64 x.nx
                        | 13 => v = .bool true
                        | 14 => v = .bool false
                        | 15 => v = .bool false
                        | 16 => v = .bool false
                        | 17 => v = .pointer (some ⟨g5, 3, none⟩)
                        | 18 => v = .slice x.A m x.c
                        | 19 => v = .int .i64 m
                        | 20 => v = .bool false
                        | 21 => v = .bool false
                        | 22 => v = .bool false
                        | 23 => v = .int .i64 j
                        | 24 => v = .bool false
                        | 25 => v = .bool false
                        | 26 => v = undef
                        | 27 => v = undef
                        | 28 => v = undef
                        | 29 => v = undef
                        | 30 => v = undef
                        | 31 => v = undef
                        | 32 => v = undef
                        | 33 => v = undef
                        | 34 => v = undef
                        | 35 => v = undef
                        | 36 => v = undef
                        | 37 => v = .bool false
                        | 38 => v = .bool false
                        | _ => True) (by kernel_rfl) (by kernel_rfl) (by kernel_rfl) (by kernel_rfl) ?_ ?_ ?_
                      · intro i v W1 W2 e1 e2 h
                        match i, h with
                        | 0, h => exact h
                        | 1, h => exact h
                        | 2, h => exact h
                        | 3, h => exact h
                        | 4, h => exact h
                        | 5, h => exact h
                        | 6, h => exact h
                        | 7, h => exact h
                        | 8, h => exact h
                        | 9, h => exact h
                        | 10, h => exact h
                        | 11, h => exact h
                        | 12, h => exact h
                        | 13, h => exact h
                        | 14, h => exact h
                        | 15, h => exact h
                        | 16, h => exact h
                        | 17, h => exact h
                        | 18, h => exact h
                        | 19, h => exact h
                        | 20, h => exact h
                        | 21, h => exact h
                        | 22, h => exact h
                        | 23, h => exact h
                        | 24, h => exact h
                        | 25, h => exact h
                        | 26, h => exact h
                        | 27, h => exact h
                        | 28, h => exact h
                        | 29, h => exact h
                        | 30, h => exact h
                        | 31, h => exact h
                        | 32, h => exact h
                        | 33, h => exact h
                        | 34, h => exact h
                        | 35, h => exact h
                        | 36, h => exact h
                        | 37, h => exact h
                        | 38, h => exact h
                        | (i + 39), h => exact h
                      · intro HF
                        refine locals_cons (fun u W hW hd => ?_) ?_
                        · refine opLeaves_ev HF rfl fun ev zc zg zf zt => ?_
                          have t4 : ev (.tmp 4) = .pointer (some ⟨g5, 0, none⟩) := zt 4
                          clear zt
                          exact ev_val (v := .pointer (some ⟨g5, 0, none⟩)) (by go_simp) rfl
                        refine locals_cons (fun u W hW hd => ?_) ?_
                        · refine opLeaves_ev HF rfl fun ev zc zg zf zt => ?_
                          have t28 : ev (.tmp 28) = u 0 := zt 28
                          clear zt
                          have h0 : u 0 = _ := hd 0 (by kernel_rfl)
                          have b0 := (B5.ext hW B5.lt).cell 0
                          simp only [List.getElem?_cons_zero] at b0
                          exact ev_val (v := .string (ofL x.name)) (by go_simp) rfl
                        refine locals_cons (fun u W hW hd => ?_) ?_
                        · refine opLeaves_ev HF rfl fun ev zc zg zf zt => ?_
                          have t29 : ev (.tmp 29) = u 1 := zt 29
                          clear zt
                          have h1 : u 1 = _ := hd 1 (by kernel_rfl)
                          exact ev_call (f := 57) (args := #[.string (ofL x.name)]) (by go_simp) ((cW.out W).mono (by rintro e9 W9 ⟨rfl, h9⟩; exact ⟨_, rfl, h9, rfl⟩))
                        refine locals_cons (fun u W hW hd => ?_) ?_
                        · refine opLeaves_ev HF rfl fun ev zc zg zf zt => ?_
                          have t30 : ev (.tmp 30) = u 2 := zt 30
                          clear zt
                          have h2 : u 2 = _ := hd 2 (by kernel_rfl)
                          exact ev_val (v := .bool false) (by go_simp) rfl
                        refine locals_cons (fun u W hW hd => ?_) ?_
                        · refine opLeaves_ev HF rfl fun ev zc zg zf zt => ?_
                          have t31 : ev (.tmp 31) = u 3 := zt 31
                          clear zt
                          have h3 : u 3 = _ := hd 3 (by kernel_rfl)
                          exact ev_val (v := .bool false) (by go_simp) rfl
                        refine locals_cons (fun u W hW hd => ?_) ?_
                        · have hG4 : u 4 = _ := hd 4 (by kernel_rfl)
                          refine opLeaves_evG HF rfl rfl hG4 fun ev zc zg zf zt => ?_
                          have t4 : ev (.tmp 4) = .pointer (some ⟨g5, 0, none⟩) := zt 4
                          clear zt
                          have h4 : u 4 = _ := hd 4 (by kernel_rfl)
                          exact ev_val (v := .pointer (some ⟨g5, 1, none⟩)) (by go_simp) rfl
                        refine locals_cons (fun u W hW hd => ?_) ?_
                        · have hG4 : u 4 = _ := hd 4 (by kernel_rfl)
                          refine opLeaves_evG HF rfl rfl hG4 fun ev zc zg zf zt => ?_
                          have t33 : ev (.tmp 33) = u 5 := zt 33
                          clear zt
                          have h4 : u 4 = _ := hd 4 (by kernel_rfl)
                          have h5 : u 5 = _ := hd 5 (by kernel_rfl)
                          have b1 := (B5.ext hW B5.lt).cell 1
                          simp only [List.getElem?_cons_zero, List.getElem?_cons_succ] at b1
                          exact ev_val (v := .int .i64 x.ep) (by go_simp) rfl
                        refine locals_cons (fun u W hW hd => ?_) ?_
                        · have hG4 : u 4 = _ := hd 4 (by kernel_rfl)
                          refine opLeaves_evG HF rfl rfl hG4 fun ev zc zg zf zt => ?_
                          have t34 : ev (.tmp 34) = u 6 := zt 34
                          clear zt
                          have h4 : u 4 = _ := hd 4 (by kernel_rfl)
                          have h6 : u 6 = _ := hd 6 (by kernel_rfl)
                          exact ev_call (f := 56) (args := #[.int .i64 x.ep, .int .i64 0]) (by go_simp) ((cE.out W).mono (by rintro e9 W9 ⟨rfl, h9⟩; exact ⟨_, rfl, h9, rfl⟩))
                        refine locals_cons (fun u W hW hd => ?_) ?_
                        · have hG4 : u 4 = _ := hd 4 (by kernel_rfl)
                          refine opLeaves_evG HF rfl rfl hG4 fun ev zc zg zf zt => ?_
                          have t35 : ev (.tmp 35) = u 7 := zt 35
                          clear zt
                          have h4 : u 4 = _ := hd 4 (by kernel_rfl)
                          have h7 : u 7 = _ := hd 7 (by kernel_rfl)
                          exact ev_val (v := .bool false) (by go_simp) rfl
                        refine locals_cons (fun u W hW hd => ?_) ?_
                        · refine opLeaves_ev HF rfl fun ev zc zg zf zt => ?_
                          have t32 : ev (.tmp 32) = u 4 := zt 32
                          have t36 : ev (.tmp 36) = u 8 := zt 36
                          clear zt
                          have h4 : u 4 = _ := hd 4 (by kernel_rfl)
                          have h8 : u 8 = _ := hd 8 (by kernel_rfl)
                          exact ev_val (v := .bool false) (by go_simp) rfl
                        refine locals_cons (fun u W hW hd => ?_) ?_
                        · refine opLeaves_ev HF rfl fun ev zc zg zf zt => ?_
                          have t37 : ev (.tmp 37) = u 9 := zt 37
                          clear zt
                          have h9 : u 9 = _ := hd 9 (by kernel_rfl)
                          exact ev_val (v := .bool false) (by go_simp) rfl
                        refine locals_cons (fun u W hW hd => ?_) ?_
                        · have hG10 : u 10 = _ := hd 10 (by kernel_rfl)
                          refine opLeaves_evG HF rfl rfl hG10 fun ev zc zg zf zt => ?_
                          have t4 : ev (.tmp 4) = .pointer (some ⟨g5, 0, none⟩) := zt 4
                          clear zt
                          have h10 : u 10 = _ := hd 10 (by kernel_rfl)
                          exact ev_val (v := .pointer (some ⟨g5, 2, none⟩)) (by go_simp) rfl
                        refine locals_cons (fun u W hW hd => ?_) ?_
                        · have hG10 : u 10 = _ := hd 10 (by kernel_rfl)
                          refine opLeaves_evG HF rfl rfl hG10 fun ev zc zg zf zt => ?_
                          have t39 : ev (.tmp 39) = u 11 := zt 39
                          clear zt
                          have h10 : u 10 = _ := hd 10 (by kernel_rfl)
                          have h11 : u 11 = _ := hd 11 (by kernel_rfl)
                          have b2 := (B5.ext hW B5.lt).cell 2
                          simp only [List.getElem?_cons_zero, List.getElem?_cons_succ] at b2
                          exact ev_val (v := .int .i64 x.nx) (by go_simp) rfl
                        refine locals_cons (fun u W hW hd => ?_) ?_
                        · have hG10 : u 10 = _ := hd 10 (by kernel_rfl)
                          refine opLeaves_evG HF rfl rfl hG10 fun ev zc zg zf zt => ?_
                          have t40 : ev (.tmp 40) = u 12 := zt 40
                          clear zt
                          have h10 : u 10 = _ := hd 10 (by kernel_rfl)
                          have h12 : u 12 = _ := hd 12 (by kernel_rfl)
                          exact ev_call (f := 56) (args := #[.int .i64 x.nx, .int .i64 1]) (by go_simp) ((cX.out W).mono (by rintro e9 W9 ⟨rfl, h9⟩; exact ⟨_, rfl, h9, rfl⟩))
                        refine locals_cons (fun u W hW hd => ?_) ?_
                        · have hG10 : u 10 = _ := hd 10 (by kernel_rfl)
                          refine opLeaves_evG HF rfl rfl hG10 fun ev zc zg zf zt => ?_
                          have t41 : ev (.tmp 41) = u 13 := zt 41
                          clear zt
                          have h10 : u 10 = _ := hd 10 (by kernel_rfl)
                          have h13 : u 13 = _ := hd 13 (by kernel_rfl)
                          exact ev_val (v := .bool false) (by go_simp) rfl
                        refine locals_cons (fun u W hW hd => ?_) ?_
                        · refine opLeaves_ev HF rfl fun ev zc zg zf zt => ?_
                          have t38 : ev (.tmp 38) = u 10 := zt 38
                          have t42 : ev (.tmp 42) = u 14 := zt 42
                          clear zt
                          have h10 : u 10 = _ := hd 10 (by kernel_rfl)
                          have h14 : u 14 = _ := hd 14 (by kernel_rfl)
                          exact ev_val (v := .bool false) (by go_simp) rfl
                        refine locals_cons (fun u W hW hd => ?_) ?_
                        · refine opLeaves_ev HF rfl fun ev zc zg zf zt => ?_
                          have t43 : ev (.tmp 43) = u 15 := zt 43
                          clear zt
                          have h15 : u 15 = _ := hd 15 (by kernel_rfl)
                          exact ev_val (v := .bool false) (by go_simp) rfl
                        refine locals_cons (fun u W hW hd => ?_) ?_
                        · have hG16 : u 16 = _ := hd 16 (by kernel_rfl)
                          refine opLeaves_evG HF rfl rfl hG16 fun ev zc zg zf zt => ?_
                          have t4 : ev (.tmp 4) = .pointer (some ⟨g5, 0, none⟩) := zt 4
                          clear zt
                          have h16 : u 16 = _ := hd 16 (by kernel_rfl)
                          exact ev_val (v := .pointer (some ⟨g5, 3, none⟩)) (by go_simp) rfl
                        refine locals_cons (fun u W hW hd => ?_) ?_
                        · have hG16 : u 16 = _ := hd 16 (by kernel_rfl)
                          refine opLeaves_evG HF rfl rfl hG16 fun ev zc zg zf zt => ?_
                          have t45 : ev (.tmp 45) = u 17 := zt 45
                          clear zt
                          have h16 : u 16 = _ := hd 16 (by kernel_rfl)
                          have h17 : u 17 = _ := hd 17 (by kernel_rfl)
                          have b3 := (B5.ext hW B5.lt).cell 3
                          simp only [List.getElem?_cons_zero, List.getElem?_cons_succ] at b3
                          exact ev_val (v := .slice x.A m x.c) (by go_simp) rfl
                        refine locals_cons (fun u W hW hd => ?_) ?_
                        · have hG16 : u 16 = _ := hd 16 (by kernel_rfl)
                          refine opLeaves_evG HF rfl rfl hG16 fun ev zc zg zf zt => ?_
                          have t46 : ev (.tmp 46) = u 18 := zt 46
                          clear zt
                          have h16 : u 16 = _ := hd 16 (by kernel_rfl)
                          have h18 : u 18 = _ := hd 18 (by kernel_rfl)
                          exact ev_val (v := .int .i64 m) (by go_simp) rfl
                        refine locals_cons (fun u W hW hd => ?_) ?_
                        · have hG16 : u 16 = _ := hd 16 (by kernel_rfl)
                          refine opLeaves_evG HF rfl rfl hG16 fun ev zc zg zf zt => ?_
                          have t47 : ev (.tmp 47) = u 19 := zt 47
                          clear zt
                          have h16 : u 16 = _ := hd 16 (by kernel_rfl)
                          have h19 : u 19 = _ := hd 19 (by kernel_rfl)
                          exact ev_val (v := .bool false) (by go_simp) rfl
                        refine locals_cons (fun u W hW hd => ?_) ?_
                        · refine opLeaves_ev HF rfl fun ev zc zg zf zt => ?_
                          have t44 : ev (.tmp 44) = u 16 := zt 44
                          have t48 : ev (.tmp 48) = u 20 := zt 48
                          clear zt
                          have h16 : u 16 = _ := hd 16 (by kernel_rfl)
                          have h20 : u 20 = _ := hd 20 (by kernel_rfl)
                          exact ev_val (v := .bool false) (by go_simp) rfl
                        refine locals_cons (fun u W hW hd => ?_) ?_
                        · refine opLeaves_ev HF rfl fun ev zc zg zf zt => ?_
                          have t49 : ev (.tmp 49) = u 21 := zt 49
                          clear zt
                          have h21 : u 21 = _ := hd 21 (by kernel_rfl)
                          exact ev_val (v := .bool false) (by go_simp) rfl
                        refine locals_cons (fun u W hW hd => ?_) ?_
                        · have hG22 : u 22 = _ := hd 22 (by kernel_rfl)
                          refine opLeaves_evG HF rfl rfl hG22 fun ev zc zg zf zt => ?_
                          have t3 : ev (.tmp 3) = .int .i64 j := zt 3
                          clear zt
                          have h22 : u 22 = _ := hd 22 (by kernel_rfl)
                          exact ev_val (v := .int .i64 j) (by go_simp) rfl
                        refine locals_cons (fun u W hW hd => ?_) ?_
                        · have hG22 : u 22 = _ := hd 22 (by kernel_rfl)
                          refine opLeaves_evG HF rfl rfl hG22 fun ev zc zg zf zt => ?_
                          have t51 : ev (.tmp 51) = u 23 := zt 51
                          clear zt
                          have h22 : u 22 = _ := hd 22 (by kernel_rfl)
                          have h23 : u 23 = _ := hd 23 (by kernel_rfl)
                          exact ev_val (v := .bool false) (by go_simp) rfl
                        refine locals_cons (fun u W hW hd => ?_) ?_
                        · have hG22 : u 22 = _ := hd 22 (by kernel_rfl)
                          refine opLeaves_evG HF rfl rfl hG22 fun ev zc zg zf zt => ?_
                          have t52 : ev (.tmp 52) = u 24 := zt 52
                          clear zt
                          have h22 : u 22 = _ := hd 22 (by kernel_rfl)
                          have h24 : u 24 = _ := hd 24 (by kernel_rfl)
                          exact ev_val (v := .bool false) (by go_simp) rfl
                        refine locals_cons (fun u W hW hd => ?_) ?_
                        · have hG25 : u 25 = _ := hd 25 (by kernel_rfl)
                          exact opLeaves_evOff HF rfl rfl hG25 (by intro h; cases h) rfl
                        refine locals_cons (fun u W hW hd => ?_) ?_
                        · have hG25 : u 25 = _ := hd 25 (by kernel_rfl)
                          exact opLeaves_evOff HF rfl rfl hG25 (by intro h; cases h) rfl
                        refine locals_cons (fun u W hW hd => ?_) ?_
                        · have hG25 : u 25 = _ := hd 25 (by kernel_rfl)
                          exact opLeaves_evOff HF rfl rfl hG25 (by intro h; cases h) rfl
                        refine locals_cons (fun u W hW hd => ?_) ?_
                        · have hG25 : u 25 = _ := hd 25 (by kernel_rfl)
                          exact opLeaves_evOff HF rfl rfl hG25 (by intro h; cases h) rfl
                        refine locals_cons (fun u W hW hd => ?_) ?_
                        · have hG25 : u 25 = _ := hd 25 (by kernel_rfl)
                          exact opLeaves_evOff HF rfl rfl hG25 (by intro h; cases h) rfl
                        refine locals_cons (fun u W hW hd => ?_) ?_
                        · have hG25 : u 25 = _ := hd 25 (by kernel_rfl)
                          exact opLeaves_evOff HF rfl rfl hG25 (by intro h; cases h) rfl
                        refine locals_cons (fun u W hW hd => ?_) ?_
                        · have hG25 : u 25 = _ := hd 25 (by kernel_rfl)
                          exact opLeaves_evOff HF rfl rfl hG25 (by intro h; cases h) rfl
                        refine locals_cons (fun u W hW hd => ?_) ?_
                        · have hG25 : u 25 = _ := hd 25 (by kernel_rfl)
                          exact opLeaves_evOff HF rfl rfl hG25 (by intro h; cases h) rfl
                        refine locals_cons (fun u W hW hd => ?_) ?_
                        · have hG25 : u 25 = _ := hd 25 (by kernel_rfl)
                          exact opLeaves_evOff HF rfl rfl hG25 (by intro h; cases h) rfl
                        refine locals_cons (fun u W hW hd => ?_) ?_
                        · have hG25 : u 25 = _ := hd 25 (by kernel_rfl)
                          exact opLeaves_evOff HF rfl rfl hG25 (by intro h; cases h) rfl
                        refine locals_cons (fun u W hW hd => ?_) ?_
                        · have hG25 : u 25 = _ := hd 25 (by kernel_rfl)
                          exact opLeaves_evOff HF rfl rfl hG25 (by intro h; cases h) rfl
                        refine locals_cons (fun u W hW hd => ?_) ?_
                        · have hG22 : u 22 = _ := hd 22 (by kernel_rfl)
                          refine opLeaves_evG HF rfl rfl hG22 fun ev zc zg zf zt => ?_
                          have t53 : ev (.tmp 53) = u 25 := zt 53
                          have t64 : ev (.tmp 64) = u 36 := zt 64
                          clear zt
                          have h22 : u 22 = _ := hd 22 (by kernel_rfl)
                          have h25 : u 25 = _ := hd 25 (by kernel_rfl)
                          have h36 : u 36 = _ := hd 36 (by kernel_rfl)
                          exact ev_val (v := .bool false) (by go_simp) rfl
                        refine locals_cons (fun u W hW hd => ?_) locals_nil
                        · refine opLeaves_ev HF rfl fun ev zc zg zf zt => ?_
                          have t50 : ev (.tmp 50) = u 22 := zt 50
                          have t65 : ev (.tmp 65) = u 37 := zt 65
                          clear zt
                          have h22 : u 22 = _ := hd 22 (by kernel_rfl)
                          have h37 : u 37 = _ := hd 37 (by kernel_rfl)
                          exact ev_val (v := .bool false) (by go_simp) rfl
                      · intro u7 w7 hW7 hV
                        have h38 : u7 38 = _ := hV 38 (by decide)
                        have G1 := EE.tr hW7
                        have G2 := AS5.ext hW7 AS5.lt
                        have G3 := B5.ext hW7 B5.lt
                        clear hV
                        go_simp
                        go_wp2_with fail
                        go_meet
                        exact ⟨by go_simp, G1, G2, G3⟩
                  case rest =>
                    clear EE AS5 B5 cW cE cX
                    obtain ⟨rfl, EE, AS5, B5⟩ := hcut
                    cases cb with
                    | true =>
                      obtain ⟨hj0, z, hz, h0⟩ := HCB.out.2 rfl
                      have hno : ¬ RightS l ser := fun h => by
                        have := h.2.2.2 (j - 1) z x hz (by rw [show j - 1 + 1 = j by omega]; exact HX.out)
                        omega
                      clear hj0 hz h0
                      obtain rfl : rb = false := by rw [← HB.out]; exact bP_no hno
                      clear hno HB
                      go_wp2
                      go_ret
                      exact ⟨rfl, EE⟩
                    | false =>
                      have HNC := Kp.mk (show ∀ (q : Nat) (z : TnA), q + 1 = j → l[q]? = some z → cmpL z.name x.name < 0 from fun q z hq hz => Classical.byContradiction fun h => by
                        have := HCB.out.1 ⟨by omega, z, by rw [show j - 1 = q by omega]; exact hz, by omega⟩
                        cases this)
                      have b3 := B5.cell 3
                      simp only [List.getElem?_cons_zero, List.getElem?_cons_succ] at b3
                      go_upto_region 10 with fail
                      clear b3
                      go_loopw [5] (fun i wq => ∃ k : Nat, i = .int .i64 k ∧ k ≤ m ∧ Ext w wq ∧ Arr wq w.heap.size 26 [.slice (some ⟨b, off, none⟩) n c, .int .i64 ser] ∧ Arr wq g5 47 [.string (ofL x.name), .int .i64 x.ep, .int .i64 x.nx, .slice x.A m x.c] ∧ (∀ (q : Nat) (y : KyL), q < k → x.keys[q]? = some y → KeyP x.nx y) ∧ (∀ (q : Nat) (y y' : KyL), q + 1 < k → x.keys[q]? = some y → x.keys[q + 1]? = some y' → y.num < y'.num)) (fun i _ => m - (intOf i).toNat)
                      case atStart => exact ⟨0, rfl, Nat.zero_le _, EE, AS5, B5, fun q _ h => absurd h (by omega), fun q _ _ h => absurd h (by omega)⟩
                      case round =>
                        clear EE AS5 B5
                        obtain ⟨k, rfl, hkm, EE, AG, BG, hkey, hkr⟩ := hrel
                        have HKEY := Kp.mk hkey; have HKR := Kp.mk hkr
                        clear hkey hkr
                        have b2 := BG.cell 2; have b3 := BG.cell 3
                        simp only [List.getElem?_cons_zero, List.getElem?_cons_succ] at b2 b3
                        by_cases hlk : k < m
                        · obtain ⟨bk, ok, hA, hbk, hkc⟩ := HKC.out (by omega)
                          obtain ⟨y, hy⟩ : ∃ y, x.keys[k]? = some y := ⟨_, List.getElem?_eq_getElem (by rw [HM.out]; exact hlk)⟩
                          obtain ⟨d0, d1⟩ := hkc k y hy _ EE
                          have HY := Kp.mk hy; have HKC2 := Kp.mk hkc
                          have hsy : (ofL y.text).size = y.text.length := size_ofL _
                          rw [hA] at b3
                          clear hkc hy hA
                          by_cases p1 : y.num < 1
                          · have q1 := decide_eq_true p1
                            have hno : ¬ RightS l ser := fun h => by have := ((h.2.2.1 j x HX.out).2.2.2.2.1 k y HY.out).1; omega
                            go_upto_region 12 with fail
                            go_region
                            obtain rfl : rb = false := by rw [← HB.out]; exact bP_no hno
                            clear hno HB
                            replace EE := EE.dr
                            go_wp2
                            go_ret
                            exact ⟨rfl, EE⟩
                          · have q1 := decide_eq_false p1
                            by_cases p2 : x.nx ≤ y.num
                            · have q2 := decide_eq_true p2
                              have hno : ¬ RightS l ser := fun h => by have := ((h.2.2.1 j x HX.out).2.2.2.2.1 k y HY.out).2.1; omega
                              go_upto_region 12 with fail
                              go_region
                              obtain rfl : rb = false := by rw [← HB.out]; exact bP_no hno
                              clear hno HB
                              replace EE := EE.dr
                              go_wp2
                              go_ret
                              exact ⟨rfl, EE⟩
                            · have q2 := decide_eq_false p2
                              by_cases p3 : y.text.length = 32
                              · have q3 : ((y.text.length : Int) != 32) = false := by rw [p3]; rfl
                                have HP2 := Kp.mk (show ∀ (q : Nat) (y' : KyL), q < k + 1 → x.keys[q]? = some y' → KeyP x.nx y' from fun q y' hq hy' => by
                                  by_cases hqk : q < k
                                  · exact HKEY.out q y' hqk hy'
                                  · obtain rfl : q = k := by omega
                                    rw [HY.out] at hy'
                                    obtain rfl := Option.some.inj hy'
                                    exact ⟨by omega, by omega, p3⟩)
                                by_cases hk0 : 0 < k
                                · obtain ⟨kp, hkp⟩ : ∃ i, k - 1 = i := ⟨_, rfl⟩
                                  obtain ⟨z, hz⟩ : ∃ z, x.keys[kp]? = some z := ⟨_, List.getElem?_eq_getElem (by rw [HM.out]; omega)⟩
                                  have hw1 : IntKind.i64.wrap ((k : Int) - 1) = (kp : Int) := by rw [show (k : Int) - 1 = (kp : Int) by omega]; exact IntWalk.i64_in _ (by omega)
                                  have hkpm : kp < m := by omega
                                  obtain ⟨z0, z1⟩ := HKC2.out kp z hz _ EE
                                  have HZ := Kp.mk hz
                                  have q24 : decide ((0 : Int) < (k : Int)) = true := by simp; exact hk0
                                  have HKP := Kp.mk (show k = kp + 1 by omega)
                                  clear hz hkp p3
                                  by_cases p5 : y.num ≤ z.num
                                  · have q5 : decide (y.num ≤ z.num) = true := decide_eq_true p5
                                    have hno : ¬ RightS l ser := fun h => by
                                      have := (h.2.2.1 j x HX.out).2.2.2.2.2 kp z y HZ.out (by rw [← HKP.out]; exact HY.out)
                                      omega
                                    go_upto_region 12 with fail
                                    go_region
                                    obtain rfl : rb = false := by rw [← HB.out]; exact bP_no hno
                                    clear hno HB
                                    replace EE := EE.dr
                                    go_wp2
                                    go_ret
                                    exact ⟨rfl, EE⟩
                                  · have q5 : decide (y.num ≤ z.num) = false := decide_eq_false p5
                                    have HR2 := Kp.mk (show ∀ (q : Nat) (y1 y2 : KyL), q + 1 < k + 1 → x.keys[q]? = some y1 → x.keys[q + 1]? = some y2 → y1.num < y2.num from fun q y1 y2 hq h1 h2 => by
                                      by_cases hqk : q + 1 < k
                                      · exact HKR.out q y1 y2 hqk h1 h2
                                      · have := HKP.out
                                        obtain rfl : q = kp := by omega
                                        rw [HZ.out] at h1
                                        rw [← this, HY.out] at h2
                                        obtain rfl := Option.some.inj h1
                                        obtain rfl := Option.some.inj h2
                                        omega)
                                    have G := EE
                                    go_upto_region 12 with fail
                                    go_region
                                    go_wp2_with fail
                                    go_roundw
                                    case rel => exact ⟨k + 1, by go_num, hlk, G.dr, AG, BG, HP2.out, HR2.out⟩
                                    case measure => simp [intOf]; omega
                                · have q24 : decide ((0 : Int) < (k : Int)) = false := by simp; omega
                                  have HR2 := Kp.mk (show ∀ (q : Nat) (y1 y2 : KyL), q + 1 < k + 1 → x.keys[q]? = some y1 → x.keys[q + 1]? = some y2 → y1.num < y2.num from fun q y1 y2 hq h1 h2 => absurd hq (by omega))
                                  have G := EE
                                  clear p3
                                  go_upto_region 12 with fail
                                  go_region
                                  go_wp2_with fail
                                  go_roundw
                                  case rel => exact ⟨k + 1, by go_num, hlk, G.dr, AG, BG, HP2.out, HR2.out⟩
                                  case measure => simp [intOf]; omega
                              · have q3 : ((y.text.length : Int) != 32) = true := by simp; omega
                                have hno : ¬ RightS l ser := fun h => p3 ((h.2.2.1 j x HX.out).2.2.2.2.1 k y HY.out).2.2
                                go_upto_region 12 with fail
                                go_region
                                obtain rfl : rb = false := by rw [← HB.out]; exact bP_no hno
                                clear hno HB
                                replace EE := EE.dr
                                go_wp2
                                go_ret
                                exact ⟨rfl, EE⟩
                        · obtain rfl : k = m := by omega
                          have hRT : RightT x := by
                            refine ⟨HWB.out, Classical.byContradiction fun h => ?_, Classical.byContradiction fun h => ?_, by rw [HM.out]; omega, fun q y hy => HKEY.out q y ?_ hy, fun q y1 y2 h1 h2 => HKR.out q y1 y2 ?_ h1 h2⟩
                            · have := HEB2.out; rw [bP_no h] at this; cases this
                            · have := HXB.out; rw [bP_no h] at this; cases this
                            · have := (List.getElem?_eq_some_iff.1 hy).1; rw [HM.out] at this; exact this
                            · have := (List.getElem?_eq_some_iff.1 h2).1; rw [HM.out] at this; exact this
                          have HPRE2 := Kp.mk (show ∀ (q : Nat) (t : TnA), q < j + 1 → l[q]? = some t → RightT t from fun q t hq ht => by
                            by_cases hqj : q < j
                            · exact HPRE.out q t hqj ht
                            · obtain rfl : q = j := by omega
                              rw [HX.out] at ht
                              obtain rfl := Option.some.inj ht
                              exact hRT)
                          have HRIS2 := Kp.mk (show ∀ (q : Nat) (t1 t2 : TnA), q + 1 < j + 1 → l[q]? = some t1 → l[q + 1]? = some t2 → cmpL t1.name t2.name < 0 from fun q t1 t2 hq h1 h2 => by
                            by_cases hqj : q + 1 < j
                            · exact HRIS.out q t1 t2 hqj h1 h2
                            · have hq1 : q + 1 = j := by omega
                              rw [hq1, HX.out] at h2
                              obtain rfl := Option.some.inj h2
                              exact HNC.out q t1 hq1 h1)
                          clear hRT b2
                          go_wp2
                          go_roundw
                          case rel => exact ⟨j + 1, by go_num, hlt, EE, AG, HPRE2.out, HRIS2.out⟩
                          case measure => simp [intOf]; omega
        · have hall : ∀ (k : Nat) (x : TnA), l[k]? = some x → RightT x := fun k x hx => HPRE.out k x (by
            have := (List.getElem?_eq_some_iff.1 hx).1
            rw [HN.out] at this
            omega) hx
          have hris : RisesT l := fun k x y hx hy => HRIS.out k x y (by
            have := (List.getElem?_eq_some_iff.1 hy).1
            rw [HN.out] at this
            omega) hx hy
          have hbE : FromP ser 0 := Classical.byContradiction fun h => by have := HEB.out; rw [bP_no h] at this; cases this
          obtain rfl : rb = true := by rw [← HB.out]; exact bP_yes ⟨by rw [HN.out]; omega, hbE, hall, hris⟩
          clear hall hris hbE HB
          go_wp2
          go_ret
          exact ⟨rfl, EE⟩
end Go.Proofs.Ytmnpbpfeoackiaa
