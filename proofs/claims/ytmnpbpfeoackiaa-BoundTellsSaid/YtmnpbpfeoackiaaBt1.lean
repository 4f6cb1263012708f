/-
  Package ring: whether keys, a tenant, rise and may be. Condition: what is read is in memory.
-/
import Derived.Test.YtmnpbpfeoackiaaBtPlain
import Derived.Test.YtmnpbpfeoackiaaBg2
import Derived.Test.YtmnpbpfeoackiaaInvF
namespace Go.Proofs.Ytmnpbpfeoackiaa
open Go.RowKit

theorem from_any (n m : Int) (w : World) : Calls Try.prog 49 #[.int .i64 n, .int .i64 m] w fun e w' => e = .returned (.bool (bP (FromP n m))) ∧ Ext w w' := by
  by_cases h1 : m ≤ n
  · have q1 : decide (m ≤ n) = true := decide_eq_true h1
    by_cases h2 : n ≤ 1099511627776
    · have q2 : decide (n ≤ (1099511627776 : Int)) = true := decide_eq_true h2
      rw [bP_yes (show FromP n m from ⟨h1, h2⟩)]
      go_enter Try.func49, Try.ntmps49
      go_wp2
      go_ret
      exact ⟨rfl, Ext.rfl' _⟩
    · have q2 : decide (n ≤ (1099511627776 : Int)) = false := decide_eq_false h2
      rw [bP_no (fun h : FromP n m => h2 h.2)]
      go_enter Try.func49, Try.ntmps49
      go_wp2
      go_ret
      exact ⟨rfl, Ext.rfl' _⟩
  · have q1 : decide (m ≤ n) = false := decide_eq_false h1
    rw [bP_no (fun h : FromP n m => h1 h.1)]
    go_enter Try.func49, Try.ntmps49
    go_wp2
    go_ret
    exact ⟨rfl, Ext.rfl' _⟩
theorem kless_any (a b : KyL) (w : World) : Calls Try.prog 64 #[kyV a, kyV b] w fun e w' => e = .returned (.bool (decide (a.num < b.num))) ∧ Ext w w' := by
  obtain ⟨W, hW, E0, A0, A1⟩ : ∃ W, (w.alloc (.cells #[.int .i64 a.num, .string (ofL a.text)] 73)).alloc (.cells #[.int .i64 b.num, .string (ofL b.text)] 73) = W ∧ Ext w W ∧ Arr W w.heap.size 73 [.int .i64 a.num, .string (ofL a.text)] ∧ Arr W (w.heap.size + 1) 73 [.int .i64 b.num, .string (ofL b.text)] := by
    refine ⟨_, rfl, ((Ext.rfl' w).al _).al _, (Arr.new w _ [.int .i64 a.num, .string (ofL a.text)]).alloc _, ?_⟩
    have H := Arr.new (w.alloc (.cells #[.int .i64 a.num, .string (ofL a.text)] 73)) 73 [.int .i64 b.num, .string (ofL b.text)]
    rw [World.size_alloc] at H
    exact H
  have HW := Kp.mk hW
  have c0 := A0.cell 0; have c1 := A1.cell 0
  simp only [List.getElem?_cons_zero] at c0 c1
  clear hW
  unfold kyV
  go_enter Try.func64, Try.ntmps64
  go_upto_region 1 with fail
  rw [HW.out]
  clear HW
  go_wp2
  go_ret
  exact ⟨rfl, E0⟩
set_option maxRecDepth 100000 in
set_option maxHeartbeats 1000000 in
theorem krises_any {t : TnA} {w : World} (H : RdKys w t) (hl : t.keys.length ≤ 1000) : Calls Try.prog 63 #[.slice t.A t.keys.length t.c, .func (.func 64) #[] #[]] w fun e w' => e = .returned (.bool (bP (RisesK t.keys))) ∧ Ext w w' := by
  have hcl := Kp.mk H.cells
  obtain ⟨A, hA⟩ : ∃ A, t.A = A := ⟨_, rfl⟩
  obtain ⟨c, hc⟩ : ∃ c, t.c = c := ⟨_, rfl⟩
  obtain ⟨l, hL⟩ : ∃ l, t.keys = l := ⟨_, rfl⟩
  rw [hA, hL] at hcl
  rw [hL] at hl
  rw [hA, hc, hL]
  obtain ⟨n, hn⟩ : ∃ n, l.length = n := ⟨_, rfl⟩
  rw [hn] at hcl hl ⊢
  have HN := Kp.mk hn
  obtain ⟨rb, hrb⟩ : ∃ b, bP (RisesK l) = b := ⟨_, rfl⟩
  rw [hrb]
  have HB := Kp.mk hrb
  clear H hA hc hL hn hrb
  go_enter Try.func63, Try.ntmps63
  go_upto_region 2 with fail
  go_loopw [5] (fun i wr => ∃ j : Nat, i = .int .i64 j ∧ 1 ≤ j ∧ (j ≤ n ∨ j = 1) ∧ Ext w wr ∧ (∀ (k : Nat) (x y : KyL), k + 1 < j → l[k]? = some x → l[k + 1]? = some y → x.num < y.num)) (fun i _ => n - (intOf i).toNat)
  case atStart => exact ⟨1, rfl, Nat.le_refl _, .inr rfl, Ext.rfl' _, fun k _ _ h => absurd h (by omega)⟩
  case round =>
    obtain ⟨j, rfl, hj1, hjn, E, hpre⟩ := hrel
    have HPRE := Kp.mk hpre
    clear hpre
    by_cases hlt : j < n
    · obtain ⟨b, off, rfl, hbw, hcell⟩ := hcl.out (by omega)
      obtain ⟨k, hk⟩ : ∃ k, j = k + 1 := ⟨j - 1, by omega⟩
      obtain ⟨x, hx⟩ : ∃ x, l[k]? = some x := ⟨_, List.getElem?_eq_getElem (by rw [HN.out]; omega)⟩
      obtain ⟨y, hy⟩ : ∃ y, l[j]? = some y := ⟨_, List.getElem?_eq_getElem (by rw [HN.out]; exact hlt)⟩
      have hw1 : IntKind.i64.wrap ((j : Int) - 1) = (k : Int) := by rw [show (j : Int) - 1 = (k : Int) by omega]; exact IntWalk.i64_in _ (by omega)
      have HC := Kp.mk (fun W (hW : Ext wr W) => And.intro (hcell k x hx W (E.tr hW)) (hcell j y hy W (E.tr hW)))
      have hkn : k < n := by omega
      have HX := Kp.mk hx; have HY := Kp.mk hy; have HK := Kp.mk hk; have HW1 := Kp.mk hw1
      obtain ⟨lb, hlb⟩ : ∃ b, decide (x.num < y.num) = b := ⟨_, rfl⟩
      have HLB := Kp.mk hlb
      clear hcell hx hy hk hw1 hlb
      go_upto_region 4 with fail
      refine wp_region_localsE (fun i v W => match i with
        | 0 => v = .func (.func 64) #[] #[]
        | 1 => v = .slice (some ⟨b, off, none⟩) n c
        | 2 => v = .int .i64 j
        | 3 => v = .int .i64 k
        | 4 => v = .pointer (some ⟨b, off + k * 2, none⟩)
        | 5 => v = .agg #[.int .i64 x.num, .string (ofL x.text)]
        | 6 => v = .slice (some ⟨b, off, none⟩) n c
        | 7 => v = .int .i64 j
        | 8 => v = .pointer (some ⟨b, off + j * 2, none⟩)
        | 9 => v = .agg #[.int .i64 y.num, .string (ofL y.text)]
        | 10 => v = .bool lb
        | 11 => v = .bool (!lb)
        | _ => True) (by kernel_rfl) (by kernel_rfl) (by kernel_rfl) (by kernel_rfl) ?_ ?_ ?_
      · intro i v W1 W2 e1 e2 h
        match i, h with
        | 0, h => exact h
        | 1, h => exact h
        | 2, h => exact h
        | 3, h => exact h
        | 4, h => exact h
        | 5, h => exact h
        | 6, h => exact h
        | 7, h => exact h
        | 8, h => exact h
        | 9, h => exact h
        | 10, h => exact h
        | 11, h => exact h
        | (i + 12), h => exact h
      · intro HF
        refine locals_cons (fun u W hW hd => ?_) ?_
        · refine opLeaves_ev HF rfl fun ev zc zg zf zt => ?_
          have t1 : ev (.tmp 1) = .func (.func 64) #[] #[] := zt 1
          clear zt
          exact ev_val (v := .func (.func 64) #[] #[]) (by go_simp) rfl
        refine locals_cons (fun u W hW hd => ?_) ?_
        · refine opLeaves_ev HF rfl fun ev zc zg zf zt => ?_
          have t0 : ev (.tmp 0) = .slice (some ⟨b, off, none⟩) n c := zt 0
          clear zt
          exact ev_val (v := .slice (some ⟨b, off, none⟩) n c) (by go_simp) rfl
        refine locals_cons (fun u W hW hd => ?_) ?_
        · refine opLeaves_ev HF rfl fun ev zc zg zf zt => ?_
          have t5 : ev (.tmp 5) = .int .i64 j := zt 5
          clear zt
          exact ev_val (v := .int .i64 j) (by go_simp) rfl
        refine locals_cons (fun u W hW hd => ?_) ?_
        · refine opLeaves_ev HF rfl fun ev zc zg zf zt => ?_
          have t14 : ev (.tmp 14) = u 2 := zt 14
          clear zt
          have h2 : u 2 = _ := hd 2 (by kernel_rfl)
          have hw1 := HW1.out
          exact ev_val (v := .int .i64 k) (by go_simp) rfl
        refine locals_cons (fun u W hW hd => ?_) ?_
        · refine opLeaves_ev HF rfl fun ev zc zg zf zt => ?_
          have t13 : ev (.tmp 13) = u 1 := zt 13
          have t15 : ev (.tmp 15) = u 3 := zt 15
          clear zt
          have h1 : u 1 = _ := hd 1 (by kernel_rfl)
          have h3 : u 3 = _ := hd 3 (by kernel_rfl)
          exact ev_val (v := .pointer (some ⟨b, off + k * 2, none⟩)) (by go_simp) rfl
        refine locals_cons (fun u W hW hd => ?_) ?_
        · refine opLeaves_ev HF rfl fun ev zc zg zf zt => ?_
          have t16 : ev (.tmp 16) = u 4 := zt 16
          clear zt
          have h4 : u 4 = _ := hd 4 (by kernel_rfl)
          have q0 := (HC.out W hW).1.1; have q1 := (HC.out W hW).1.2
          exact ev_val (v := .agg #[.int .i64 x.num, .string (ofL x.text)]) (by go_simp) rfl
        refine locals_cons (fun u W hW hd => ?_) ?_
        · refine opLeaves_ev HF rfl fun ev zc zg zf zt => ?_
          have t0 : ev (.tmp 0) = .slice (some ⟨b, off, none⟩) n c := zt 0
          clear zt
          exact ev_val (v := .slice (some ⟨b, off, none⟩) n c) (by go_simp) rfl
        refine locals_cons (fun u W hW hd => ?_) ?_
        · refine opLeaves_ev HF rfl fun ev zc zg zf zt => ?_
          have t5 : ev (.tmp 5) = .int .i64 j := zt 5
          clear zt
          exact ev_val (v := .int .i64 j) (by go_simp) rfl
        refine locals_cons (fun u W hW hd => ?_) ?_
        · refine opLeaves_ev HF rfl fun ev zc zg zf zt => ?_
          have t18 : ev (.tmp 18) = u 6 := zt 18
          have t19 : ev (.tmp 19) = u 7 := zt 19
          clear zt
          have h6 : u 6 = _ := hd 6 (by kernel_rfl)
          have h7 : u 7 = _ := hd 7 (by kernel_rfl)
          exact ev_val (v := .pointer (some ⟨b, off + j * 2, none⟩)) (by go_simp) rfl
        refine locals_cons (fun u W hW hd => ?_) ?_
        · refine opLeaves_ev HF rfl fun ev zc zg zf zt => ?_
          have t20 : ev (.tmp 20) = u 8 := zt 20
          clear zt
          have h8 : u 8 = _ := hd 8 (by kernel_rfl)
          have q0 := (HC.out W hW).2.1; have q1 := (HC.out W hW).2.2
          exact ev_val (v := .agg #[.int .i64 y.num, .string (ofL y.text)]) (by go_simp) rfl
        refine locals_cons (fun u W hW hd => ?_) ?_
        · refine opLeaves_ev HF rfl fun ev zc zg zf zt => ?_
          have t12 : ev (.tmp 12) = u 0 := zt 12
          have t17 : ev (.tmp 17) = u 5 := zt 17
          have t21 : ev (.tmp 21) = u 9 := zt 21
          clear zt
          have h0 : u 0 = _ := hd 0 (by kernel_rfl)
          have h5 : u 5 = _ := hd 5 (by kernel_rfl)
          have h9 : u 9 = _ := hd 9 (by kernel_rfl)
          have hk := kless_any x y W
          rw [HLB.out] at hk
          unfold kyV at hk
          exact ev_call (f := 64) (args := #[.agg #[.int .i64 x.num, .string (ofL x.text)], .agg #[.int .i64 y.num, .string (ofL y.text)]]) (by go_simp) (hk.mono (by rintro e9 W9 ⟨rfl, h9⟩; exact ⟨_, rfl, h9, rfl⟩))
        refine locals_cons (fun u W hW hd => ?_) locals_nil
        · refine opLeaves_ev HF rfl fun ev zc zg zf zt => ?_
          have t22 : ev (.tmp 22) = u 10 := zt 22
          clear zt
          have h10 := hd 10 (by kernel_rfl)
          have h10 : u 10 = _ := h10
          exact ev_val (v := .bool (!lb)) (by go_simp) rfl
      · intro u4 w4 hW4 hV
        have h11 : u4 11 = _ := hV 11 (by decide)
        have E4 := E.tr hW4
        clear hV hW4 E
        go_simp
        cases lb with
        | false =>
          have hno : ¬ RisesK l := fun h => by
            have := h k x y HX.out (by rw [← HK.out]; exact HY.out)
            have h2 := HLB.out
            rw [decide_eq_true this] at h2
            cases h2
          obtain rfl : rb = false := by rw [← HB.out]; exact bP_no hno
          clear HB
          go_wp2
          go_ret
          exact ⟨rfl, E4⟩
        | true =>
          have hlt2 : x.num < y.num := of_decide_eq_true HLB.out
          have HP2 := Kp.mk (show ∀ (q : Nat) (x y : KyL), q + 1 < j + 1 → l[q]? = some x → l[q + 1]? = some y → x.num < y.num from fun q x' y' hq hx' hy' => by
            by_cases hqj : q + 1 < j
            · exact HPRE.out q x' y' hqj hx' hy'
            · have hk := HK.out
              obtain rfl : q = k := by omega
              rw [HX.out] at hx'
              rw [← hk, HY.out] at hy'
              obtain rfl := Option.some.inj hx'
              obtain rfl := Option.some.inj hy'
              exact hlt2)
          clear hlt2
          go_wp2_with fail
          go_roundw
          case rel => exact ⟨j + 1, by go_num, by omega, .inl hlt, E4, HP2.out⟩
          case measure => simp [intOf]; omega
    · have hyes : RisesK l := fun k x y hx hy => HPRE.out k x y (by
        have := (List.getElem?_eq_some_iff.1 hy).1
        rw [HN.out] at this
        omega) hx hy
      obtain rfl : rb = true := by rw [← HB.out]; exact bP_yes hyes
      clear hyes HB
      go_wp2
      go_ret
      exact ⟨rfl, E⟩
end Go.Proofs.Ytmnpbpfeoackiaa
