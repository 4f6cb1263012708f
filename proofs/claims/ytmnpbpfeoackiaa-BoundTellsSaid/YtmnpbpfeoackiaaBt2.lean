/-
  Package ring: whether tenants rise, whether a tenant may be, a state. Condition: what is read is in memory.
-/
import Derived.Test.YtmnpbpfeoackiaaBt1
namespace Go.Proofs.Ytmnpbpfeoackiaa
open Go.RowKit

theorem tless_any (a b : TnA) (w : World) : Calls Try.prog 52 #[tnV a, tnV b] w fun e w' => e = .returned (.bool (decide (cmpL a.name b.name < 0))) ∧ Ext w w' := by
  obtain ⟨W, hW, E0, A0, A1⟩ : ∃ W, (w.alloc (.cells #[.string (ofL a.name), .int .i64 a.ep, .int .i64 a.nx, .slice a.A a.keys.length a.c] 47)).alloc (.cells #[.string (ofL b.name), .int .i64 b.ep, .int .i64 b.nx, .slice b.A b.keys.length b.c] 47) = W ∧ Ext w W ∧ Arr W w.heap.size 47 (tnC a) ∧ Arr W (w.heap.size + 1) 47 (tnC b) := by
    refine ⟨_, rfl, ((Ext.rfl' w).al _).al _, (Arr.new w _ (tnC a)).alloc _, ?_⟩
    have H := Arr.new (w.alloc (.cells #[.string (ofL a.name), .int .i64 a.ep, .int .i64 a.nx, .slice a.A a.keys.length a.c] 47)) 47 (tnC b)
    rw [World.size_alloc] at H
    exact H
  have HW := Kp.mk hW
  have c0 := A0.cell 0; have c1 := A1.cell 0
  simp only [tnC, List.getElem?_cons_zero] at c0 c1
  obtain ⟨rb, hrb⟩ : ∃ r, decide (cmpL a.name b.name < 0) = r := ⟨_, rfl⟩
  have e1 : Op.bytesLess a.name b.name = rb := by rw [less_cmp]; exact hrb
  have e2 : Op.bytesLess (ofL a.name).toList (ofL b.name).toList = rb := by rw [toList_eq_toL, toList_eq_toL, toL_ofL, toL_ofL]; exact e1
  rw [hrb]
  clear hW hrb
  unfold tnV
  go_enter Try.func52, Try.ntmps52
  go_upto_region 1 with fail
  rw [HW.out]
  clear HW
  go_wp2
  go_ret
  exact ⟨rfl, E0⟩
set_option maxRecDepth 100000 in
set_option maxHeartbeats 1000000 in
theorem trises_any {v : Value} {l : List TnA} {w : World} (H : RdTns w v l) (hl : l.length ≤ 1000) : Calls Try.prog 51 #[v, .func (.func 52) #[] #[]] w fun e w' => e = .returned (.bool (bP (RisesT l))) ∧ Ext w w' := by
  obtain ⟨A, c, rfl, -, hcl⟩ := H.cells
  replace hcl := Kp.mk hcl
  obtain ⟨n, hn⟩ : ∃ n, l.length = n := ⟨_, rfl⟩
  rw [hn] at hcl hl ⊢
  have HN := Kp.mk hn
  obtain ⟨rb, hrb⟩ : ∃ b, bP (RisesT l) = b := ⟨_, rfl⟩
  rw [hrb]
  have HB := Kp.mk hrb
  clear H hn hrb
  go_enter Try.func51, Try.ntmps51
  go_upto_region 2 with fail
  go_loopw [5] (fun i wr => ∃ j : Nat, i = .int .i64 j ∧ 1 ≤ j ∧ (j ≤ n ∨ j = 1) ∧ Ext w wr ∧ (∀ (k : Nat) (x y : TnA), k + 1 < j → l[k]? = some x → l[k + 1]? = some y → cmpL x.name y.name < 0)) (fun i _ => n - (intOf i).toNat)
  case atStart => exact ⟨1, rfl, Nat.le_refl _, .inr rfl, Ext.rfl' _, fun k _ _ h => absurd h (by omega)⟩
  case round =>
    obtain ⟨j, rfl, hj1, hjn, E, hpre⟩ := hrel
    have HPRE := Kp.mk hpre
    clear hpre
    by_cases hlt : j < n
    · obtain ⟨b, off, rfl, hbw, hcell⟩ := hcl.out (by omega)
      obtain ⟨k, hk⟩ : ∃ k, j = k + 1 := ⟨j - 1, by omega⟩
      obtain ⟨x, hx⟩ : ∃ x, l[k]? = some x := ⟨_, List.getElem?_eq_getElem (by rw [HN.out]; omega)⟩
      obtain ⟨y, hy⟩ : ∃ y, l[j]? = some y := ⟨_, List.getElem?_eq_getElem (by rw [HN.out]; exact hlt)⟩
      have hw1 : IntKind.i64.wrap ((j : Int) - 1) = (k : Int) := by rw [show (j : Int) - 1 = (k : Int) by omega]; exact IntWalk.i64_in _ (by omega)
      have HC := Kp.mk (fun W (hW : Ext wr W) => And.intro (hcell k x hx W (E.tr hW)) (hcell j y hy W (E.tr hW)))
      have hkn : k < n := by omega
      have HX := Kp.mk hx; have HY := Kp.mk hy; have HK := Kp.mk hk; have HW1 := Kp.mk hw1
      obtain ⟨lb, hlb⟩ : ∃ b, decide (cmpL x.name y.name < 0) = b := ⟨_, rfl⟩
      have HLB := Kp.mk hlb
      clear hcell hx hy hk hw1 hlb
      go_upto_region 4 with fail
      refine wp_region_localsE (fun i v W => match i with
        | 0 => v = .func (.func 52) #[] #[]
        | 1 => v = .slice (some ⟨b, off, none⟩) n c
        | 2 => v = .int .i64 j
        | 3 => v = .int .i64 k
        | 4 => v = .pointer (some ⟨b, off + k * 4, none⟩)
        | 5 => v = .agg #[.string (ofL x.name), .int .i64 x.ep, .int .i64 x.nx, .slice x.A x.keys.length x.c]
        | 6 => v = .slice (some ⟨b, off, none⟩) n c
        | 7 => v = .int .i64 j
        | 8 => v = .pointer (some ⟨b, off + j * 4, none⟩)
        | 9 => v = .agg #[.string (ofL y.name), .int .i64 y.ep, .int .i64 y.nx, .slice y.A y.keys.length y.c]
        | 10 => v = .bool lb
        | 11 => v = .bool (!lb)
        | _ => True) (by kernel_rfl) (by kernel_rfl) (by kernel_rfl) (by kernel_rfl) ?_ ?_ ?_
      · intro i v W1 W2 e1 e2 h
        match i, h with
        | 0, h => exact h
        | 1, h => exact h
        | 2, h => exact h
        | 3, h => exact h
        | 4, h => exact h
        | 5, h => exact h
        | 6, h => exact h
        | 7, h => exact h
        | 8, h => exact h
        | 9, h => exact h
        | 10, h => exact h
        | 11, h => exact h
        | (i + 12), h => exact h
      · intro HF
        refine locals_cons (fun u W hW hd => ?_) ?_
        · refine opLeaves_ev HF rfl fun ev zc zg zf zt => ?_
          have t1 : ev (.tmp 1) = .func (.func 52) #[] #[] := zt 1
          clear zt
          exact ev_val (v := .func (.func 52) #[] #[]) (by go_simp) rfl
        refine locals_cons (fun u W hW hd => ?_) ?_
        · refine opLeaves_ev HF rfl fun ev zc zg zf zt => ?_
          have t0 : ev (.tmp 0) = .slice (some ⟨b, off, none⟩) n c := zt 0
          clear zt
          exact ev_val (v := .slice (some ⟨b, off, none⟩) n c) (by go_simp) rfl
        refine locals_cons (fun u W hW hd => ?_) ?_
        · refine opLeaves_ev HF rfl fun ev zc zg zf zt => ?_
          have t5 : ev (.tmp 5) = .int .i64 j := zt 5
          clear zt
          exact ev_val (v := .int .i64 j) (by go_simp) rfl
        refine locals_cons (fun u W hW hd => ?_) ?_
        · refine opLeaves_ev HF rfl fun ev zc zg zf zt => ?_
          have t14 : ev (.tmp 14) = u 2 := zt 14
          clear zt
          have h2 : u 2 = _ := hd 2 (by kernel_rfl)
          have hw1 := HW1.out
          exact ev_val (v := .int .i64 k) (by go_simp) rfl
        refine locals_cons (fun u W hW hd => ?_) ?_
        · refine opLeaves_ev HF rfl fun ev zc zg zf zt => ?_
          have t13 : ev (.tmp 13) = u 1 := zt 13
          have t15 : ev (.tmp 15) = u 3 := zt 15
          clear zt
          have h1 : u 1 = _ := hd 1 (by kernel_rfl)
          have h3 : u 3 = _ := hd 3 (by kernel_rfl)
          exact ev_val (v := .pointer (some ⟨b, off + k * 4, none⟩)) (by go_simp) rfl
        refine locals_cons (fun u W hW hd => ?_) ?_
        · refine opLeaves_ev HF rfl fun ev zc zg zf zt => ?_
          have t16 : ev (.tmp 16) = u 4 := zt 16
          clear zt
          have h4 : u 4 = _ := hd 4 (by kernel_rfl)
          obtain ⟨⟨q0, q1, q2, q3⟩, _⟩ := HC.out W hW
          exact ev_val (v := .agg #[.string (ofL x.name), .int .i64 x.ep, .int .i64 x.nx, .slice x.A x.keys.length x.c]) (by go_simp) rfl
        refine locals_cons (fun u W hW hd => ?_) ?_
        · refine opLeaves_ev HF rfl fun ev zc zg zf zt => ?_
          have t0 : ev (.tmp 0) = .slice (some ⟨b, off, none⟩) n c := zt 0
          clear zt
          exact ev_val (v := .slice (some ⟨b, off, none⟩) n c) (by go_simp) rfl
        refine locals_cons (fun u W hW hd => ?_) ?_
        · refine opLeaves_ev HF rfl fun ev zc zg zf zt => ?_
          have t5 : ev (.tmp 5) = .int .i64 j := zt 5
          clear zt
          exact ev_val (v := .int .i64 j) (by go_simp) rfl
        refine locals_cons (fun u W hW hd => ?_) ?_
        · refine opLeaves_ev HF rfl fun ev zc zg zf zt => ?_
          have t18 : ev (.tmp 18) = u 6 := zt 18
          have t19 : ev (.tmp 19) = u 7 := zt 19
          clear zt
          have h6 : u 6 = _ := hd 6 (by kernel_rfl)
          have h7 : u 7 = _ := hd 7 (by kernel_rfl)
          exact ev_val (v := .pointer (some ⟨b, off + j * 4, none⟩)) (by go_simp) rfl
        refine locals_cons (fun u W hW hd => ?_) ?_
        · refine opLeaves_ev HF rfl fun ev zc zg zf zt => ?_
          have t20 : ev (.tmp 20) = u 8 := zt 20
          clear zt
          have h8 : u 8 = _ := hd 8 (by kernel_rfl)
          obtain ⟨_, q0, q1, q2, q3⟩ := HC.out W hW
          exact ev_val (v := .agg #[.string (ofL y.name), .int .i64 y.ep, .int .i64 y.nx, .slice y.A y.keys.length y.c]) (by go_simp) rfl
        refine locals_cons (fun u W hW hd => ?_) ?_
        · refine opLeaves_ev HF rfl fun ev zc zg zf zt => ?_
          have t12 : ev (.tmp 12) = u 0 := zt 12
          have t17 : ev (.tmp 17) = u 5 := zt 17
          have t21 : ev (.tmp 21) = u 9 := zt 21
          clear zt
          have h0 : u 0 = _ := hd 0 (by kernel_rfl)
          have h5 : u 5 = _ := hd 5 (by kernel_rfl)
          have h9 : u 9 = _ := hd 9 (by kernel_rfl)
          have hk := tless_any x y W
          rw [HLB.out] at hk
          unfold tnV at hk
          exact ev_call (f := 52) (args := #[.agg #[.string (ofL x.name), .int .i64 x.ep, .int .i64 x.nx, .slice x.A x.keys.length x.c], .agg #[.string (ofL y.name), .int .i64 y.ep, .int .i64 y.nx, .slice y.A y.keys.length y.c]]) (by go_simp) (hk.mono (by rintro e9 W9 ⟨rfl, h9⟩; exact ⟨_, rfl, h9, rfl⟩))
        refine locals_cons (fun u W hW hd => ?_) locals_nil
        · refine opLeaves_ev HF rfl fun ev zc zg zf zt => ?_
          have t22 : ev (.tmp 22) = u 10 := zt 22
          clear zt
          have h10 := hd 10 (by kernel_rfl)
          have h10 : u 10 = _ := h10
          exact ev_val (v := .bool (!lb)) (by go_simp) rfl
      · intro u4 w4 hW4 hV
        have h11 : u4 11 = _ := hV 11 (by decide)
        have E4 := E.tr hW4
        clear hV hW4 E
        go_simp
        cases lb with
        | false =>
          have hno : ¬ RisesT l := fun h => by
            have := h k x y HX.out (by rw [← HK.out]; exact HY.out)
            have h2 := HLB.out
            rw [decide_eq_true this] at h2
            cases h2
          obtain rfl : rb = false := by rw [← HB.out]; exact bP_no hno
          clear HB
          go_wp2
          go_ret
          exact ⟨rfl, E4⟩
        | true =>
          have hlt2 : cmpL x.name y.name < 0 := of_decide_eq_true HLB.out
          have HP2 := Kp.mk (show ∀ (q : Nat) (x y : TnA), q + 1 < j + 1 → l[q]? = some x → l[q + 1]? = some y → cmpL x.name y.name < 0 from fun q x' y' hq hx' hy' => by
            by_cases hqj : q + 1 < j
            · exact HPRE.out q x' y' hqj hx' hy'
            · have hk := HK.out
              obtain rfl : q = k := by omega
              rw [HX.out] at hx'
              rw [← hk, HY.out] at hy'
              obtain rfl := Option.some.inj hx'
              obtain rfl := Option.some.inj hy'
              exact hlt2)
          clear hlt2
          go_wp2_with fail
          go_roundw
          case rel => exact ⟨j + 1, by go_num, by omega, .inl hlt, E4, HP2.out⟩
          case measure => simp [intOf]; omega
    · have hyes : RisesT l := fun k x y hx hy => HPRE.out k x y (by
        have := (List.getElem?_eq_some_iff.1 hy).1
        rw [HN.out] at this
        omega) hx hy
      obtain rfl : rb = true := by rw [← HB.out]; exact bP_yes hyes
      clear hyes HB
      go_wp2
      go_ret
      exact ⟨rfl, E⟩
end Go.Proofs.Ytmnpbpfeoackiaa
