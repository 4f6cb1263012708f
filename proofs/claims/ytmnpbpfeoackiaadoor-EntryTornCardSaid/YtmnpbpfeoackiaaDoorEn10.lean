/-
  Package slices: two rows of strings, compared. Condition: both are rows of the call's own.
-/
import Derived.Test.YtmnpbpfeoackiaaDoorEn7
import Derived.Test.YtmnpbpfeoackiaaDoorMhF
namespace Go.Proofs.YtmnpbpfeoackiaaDoor
open Go.RowKit

set_option maxRecDepth 100000 in
set_option maxHeartbeats 4000000 in
theorem eqs_any {w : World} {base1 base2 : Nat} {v1 v2 : Value} {l1 l2 : List (List UInt8)} (O1 : w.ownsRow base1 9 1 v1 l1.length (l1.map Str)) (O2 : w.ownsRow base2 9 1 v2 l2.length (l2.map Str)) (hl1 : l1.length ≤ 1000000) (hl2 : l2.length ≤ 1000000) :
    Calls Tryd.prog 84 #[v1, v2] w fun e w' => e = .returned (.bool (decide (l1 = l2))) ∧ Ext w w' := by
  obtain ⟨A1, c1, rfl⟩ := own_slice O1
  obtain ⟨A2, c2, rfl⟩ := own_slice O2
  obtain ⟨n, hn⟩ : ∃ n, l1.length = n := ⟨_, rfl⟩
  obtain ⟨m, hm⟩ : ∃ m, l2.length = m := ⟨_, rfl⟩
  rw [hn] at O1 hl1 ⊢
  rw [hm] at O2 hl2 ⊢
  by_cases hnm : n = m
  · subst hnm
    have HN := Kp.mk hn; have HM := Kp.mk hm
    clear hn hm hl2
    go_enter Tryd.func84, Tryd.ntmps84
    go_upto_region 4 with fail
    go_loopw [13] (fun i wr => ∃ j : Nat, i = .int .i64 j ∧ j ≤ n ∧ l1.take j = l2.take j ∧ Ext w wr) (fun i _ => n - (intOf i).toNat)
    case atStart => exact ⟨0, rfl, Nat.zero_le _, rfl, Ext.rfl' _⟩
    case round =>
      obtain ⟨j, rfl, hj, hpre, hE⟩ := hrel
      by_cases hlt : j < n
      · obtain ⟨t1, ht1⟩ : ∃ t, l1[j]? = some t := ⟨_, List.getElem?_eq_getElem (by rw [HN.out]; exact hlt)⟩
        obtain ⟨t2, ht2⟩ : ∃ t, l2[j]? = some t := ⟨_, List.getElem?_eq_getElem (by rw [HM.out]; exact hlt)⟩
        have P1 := Kp.mk (show (l1.map Str)[j]? = some (.string (ofL t1)) by rw [List.getElem?_map, ht1]; rfl)
        have P2 := Kp.mk (show (l2.map Str)[j]? = some (.string (ofL t2)) by rw [List.getElem?_map, ht2]; rfl)
        have hs1 := Kp.mk (show t1 = t2 → l1.take (j + 1) = l2.take (j + 1) from fun e => by
          rw [List.take_add_one, List.take_add_one, hpre, ht1, ht2, e])
        have hs2 := Kp.mk (show t1 ≠ t2 → l1 ≠ l2 from fun h e => h (by rw [e, ht2] at ht1; exact (Option.some.inj ht1).symm))
        clear hpre ht1 ht2
        obtain ⟨g1, hg1⟩ : ∃ g1, A1 = some ⟨g1, 0, none⟩ := by
          rcases O1.2 with ⟨_, h⟩ | ⟨g, cap, cur, e, _⟩
          · omega
          · cases e; exact ⟨g, rfl⟩
        obtain ⟨g2, hg2⟩ : ∃ g2, A2 = some ⟨g2, 0, none⟩ := by
          rcases O2.2 with ⟨_, h⟩ | ⟨g, cap, cur, e, _⟩
          · omega
          · cases e; exact ⟨g, rfl⟩
        subst hg1; subst hg2
        by_cases ht : t1 = t2
        · have hbq : (ofL t1 == ofL t2) = true := by rw [beq_toListBytes, toList_eq_toL, toList_eq_toL, toL_ofL, toL_ofL, ht]; exact beq_self_eq_true _
          go_upto_region 6 with fail
          refine wp_region_localsE (fun i v W => match i with
            | 0 => v = .slice (some ⟨g1, 0, none⟩) n c1
            | 1 => v = .int .i64 j
            | 2 => v = .pointer (some ⟨g1, j, none⟩)
            | 3 => v = .string (ofL t1)
            | 4 => v = .slice (some ⟨g2, 0, none⟩) n c2
            | 5 => v = .int .i64 j
            | 6 => v = .pointer (some ⟨g2, j, none⟩)
            | 7 => v = .string (ofL t2)
            | 8 => v = .bool false
            | _ => True) (by kernel_rfl) (by kernel_rfl) (by kernel_rfl) (by kernel_rfl) ?_ ?_ ?_
          · intro i v W1 W2 e1 e2 h
            match i, h with
            | 0, h => exact h
            | 1, h => exact h
            | 2, h => exact h
            | 3, h => exact h
            | 4, h => exact h
            | 5, h => exact h
            | 6, h => exact h
            | 7, h => exact h
            | 8, h => exact h
            | (i + 9), h => exact h
          · intro HF
            refine locals_cons (fun u W hW hd => ?_) ?_
            · refine opLeaves_ev HF rfl fun ev zc zg zf zt => ?_
              have t0 : ev (.tmp 0) = .slice (some ⟨g1, 0, none⟩) n c1 := zt 0
              clear zt
              exact ev_val (v := .slice (some ⟨g1, 0, none⟩) n c1) (by go_simp) rfl
            refine locals_cons (fun u W hW hd => ?_) ?_
            · refine opLeaves_ev HF rfl fun ev zc zg zf zt => ?_
              have t5 : ev (.tmp 5) = .int .i64 j := zt 5
              clear zt
              exact ev_val (v := .int .i64 j) (by go_simp) rfl
            refine locals_cons (fun u W hW hd => ?_) ?_
            · refine opLeaves_ev HF rfl fun ev zc zg zf zt => ?_
              have t16 : ev (.tmp 16) = u 0 := zt 16
              have t17 : ev (.tmp 17) = u 1 := zt 17
              clear zt
              have h0 : u 0 = _ := hd 0 (by kernel_rfl)
              have h1 : u 1 = _ := hd 1 (by kernel_rfl)
              exact ev_val (v := .pointer (some ⟨g1, j, none⟩)) (by go_simp) rfl
            refine locals_cons (fun u W hW hd => ?_) ?_
            · refine opLeaves_ev HF rfl fun ev zc zg zf zt => ?_
              have t18 : ev (.tmp 18) = u 2 := zt 18
              clear zt
              have h2 : u 2 = _ := hd 2 (by kernel_rfl)
              have o1 := (own_ext O1 (fun i _ hi => (hE.tr hW).block i hi)).cellAt j (by omega)
              rw [P1.out] at o1
              exact ev_val (v := .string (ofL t1)) (by go_simp) rfl
            refine locals_cons (fun u W hW hd => ?_) ?_
            · refine opLeaves_ev HF rfl fun ev zc zg zf zt => ?_
              have t1 : ev (.tmp 1) = .slice (some ⟨g2, 0, none⟩) n c2 := zt 1
              clear zt
              exact ev_val (v := .slice (some ⟨g2, 0, none⟩) n c2) (by go_simp) rfl
            refine locals_cons (fun u W hW hd => ?_) ?_
            · refine opLeaves_ev HF rfl fun ev zc zg zf zt => ?_
              have t5 : ev (.tmp 5) = .int .i64 j := zt 5
              clear zt
              exact ev_val (v := .int .i64 j) (by go_simp) rfl
            refine locals_cons (fun u W hW hd => ?_) ?_
            · refine opLeaves_ev HF rfl fun ev zc zg zf zt => ?_
              have t20 : ev (.tmp 20) = u 4 := zt 20
              have t21 : ev (.tmp 21) = u 5 := zt 21
              clear zt
              have h4 : u 4 = _ := hd 4 (by kernel_rfl)
              have h5 : u 5 = _ := hd 5 (by kernel_rfl)
              exact ev_val (v := .pointer (some ⟨g2, j, none⟩)) (by go_simp) rfl
            refine locals_cons (fun u W hW hd => ?_) ?_
            · refine opLeaves_ev HF rfl fun ev zc zg zf zt => ?_
              have t22 : ev (.tmp 22) = u 6 := zt 22
              clear zt
              have h6 : u 6 = _ := hd 6 (by kernel_rfl)
              have o2 := (own_ext O2 (fun i _ hi => (hE.tr hW).block i hi)).cellAt j (by omega)
              rw [P2.out] at o2
              exact ev_val (v := .string (ofL t2)) (by go_simp) rfl
            refine locals_cons (fun u W hW hd => ?_) locals_nil
            · refine opLeaves_ev HF rfl fun ev zc zg zf zt => ?_
              have t19 : ev (.tmp 19) = u 3 := zt 19
              have t23 : ev (.tmp 23) = u 7 := zt 23
              clear zt
              have h3 : u 3 = _ := hd 3 (by kernel_rfl)
              have h7 : u 7 = _ := hd 7 (by kernel_rfl)
              have hbn : (ofL t1 != ofL t2) = false := by rw [bne, hbq]; rfl
              exact ev_val (v := .bool false) (by go_simp) rfl
          · intro u6 W6 hW6 hV
            have h8 : u6 8 = _ := hV 8 (by decide)
            clear hV
            go_simp
            go_wp2
            go_roundw
            case rel => exact ⟨j + 1, by go_num, hlt, hs1.out ht, hE.tr hW6⟩
            case measure => simp [intOf]; omega
        · have hbq : (ofL t1 == ofL t2) = false := by rw [beq_toListBytes, toList_eq_toL, toList_eq_toL, toL_ofL, toL_ofL]; exact beq_eq_false_iff_ne.2 ht
          go_upto_region 6 with fail
          refine wp_region_localsE (fun i v W => match i with
            | 0 => v = .slice (some ⟨g1, 0, none⟩) n c1
            | 1 => v = .int .i64 j
            | 2 => v = .pointer (some ⟨g1, j, none⟩)
            | 3 => v = .string (ofL t1)
            | 4 => v = .slice (some ⟨g2, 0, none⟩) n c2
            | 5 => v = .int .i64 j
            | 6 => v = .pointer (some ⟨g2, j, none⟩)
            | 7 => v = .string (ofL t2)
            | 8 => v = .bool true
            | _ => True) (by kernel_rfl) (by kernel_rfl) (by kernel_rfl) (by kernel_rfl) ?_ ?_ ?_
          · intro i v W1 W2 e1 e2 h
            match i, h with
            | 0, h => exact h
            | 1, h => exact h
            | 2, h => exact h
            | 3, h => exact h
            | 4, h => exact h
            | 5, h => exact h
            | 6, h => exact h
            | 7, h => exact h
            | 8, h => exact h
            | (i + 9), h => exact h
          · intro HF
            refine locals_cons (fun u W hW hd => ?_) ?_
            · refine opLeaves_ev HF rfl fun ev zc zg zf zt => ?_
              have t0 : ev (.tmp 0) = .slice (some ⟨g1, 0, none⟩) n c1 := zt 0
              clear zt
              exact ev_val (v := .slice (some ⟨g1, 0, none⟩) n c1) (by go_simp) rfl
            refine locals_cons (fun u W hW hd => ?_) ?_
            · refine opLeaves_ev HF rfl fun ev zc zg zf zt => ?_
              have t5 : ev (.tmp 5) = .int .i64 j := zt 5
              clear zt
              exact ev_val (v := .int .i64 j) (by go_simp) rfl
            refine locals_cons (fun u W hW hd => ?_) ?_
            · refine opLeaves_ev HF rfl fun ev zc zg zf zt => ?_
              have t16 : ev (.tmp 16) = u 0 := zt 16
              have t17 : ev (.tmp 17) = u 1 := zt 17
              clear zt
              have h0 : u 0 = _ := hd 0 (by kernel_rfl)
              have h1 : u 1 = _ := hd 1 (by kernel_rfl)
              exact ev_val (v := .pointer (some ⟨g1, j, none⟩)) (by go_simp) rfl
            refine locals_cons (fun u W hW hd => ?_) ?_
            · refine opLeaves_ev HF rfl fun ev zc zg zf zt => ?_
              have t18 : ev (.tmp 18) = u 2 := zt 18
              clear zt
              have h2 : u 2 = _ := hd 2 (by kernel_rfl)
              have o1 := (own_ext O1 (fun i _ hi => (hE.tr hW).block i hi)).cellAt j (by omega)
              rw [P1.out] at o1
              exact ev_val (v := .string (ofL t1)) (by go_simp) rfl
            refine locals_cons (fun u W hW hd => ?_) ?_
            · refine opLeaves_ev HF rfl fun ev zc zg zf zt => ?_
              have t1 : ev (.tmp 1) = .slice (some ⟨g2, 0, none⟩) n c2 := zt 1
              clear zt
              exact ev_val (v := .slice (some ⟨g2, 0, none⟩) n c2) (by go_simp) rfl
            refine locals_cons (fun u W hW hd => ?_) ?_
            · refine opLeaves_ev HF rfl fun ev zc zg zf zt => ?_
              have t5 : ev (.tmp 5) = .int .i64 j := zt 5
              clear zt
              exact ev_val (v := .int .i64 j) (by go_simp) rfl
            refine locals_cons (fun u W hW hd => ?_) ?_
            · refine opLeaves_ev HF rfl fun ev zc zg zf zt => ?_
              have t20 : ev (.tmp 20) = u 4 := zt 20
              have t21 : ev (.tmp 21) = u 5 := zt 21
              clear zt
              have h4 : u 4 = _ := hd 4 (by kernel_rfl)
              have h5 : u 5 = _ := hd 5 (by kernel_rfl)
              exact ev_val (v := .pointer (some ⟨g2, j, none⟩)) (by go_simp) rfl
            refine locals_cons (fun u W hW hd => ?_) ?_
            · refine opLeaves_ev HF rfl fun ev zc zg zf zt => ?_
              have t22 : ev (.tmp 22) = u 6 := zt 22
              clear zt
              have h6 : u 6 = _ := hd 6 (by kernel_rfl)
              have o2 := (own_ext O2 (fun i _ hi => (hE.tr hW).block i hi)).cellAt j (by omega)
              rw [P2.out] at o2
              exact ev_val (v := .string (ofL t2)) (by go_simp) rfl
            refine locals_cons (fun u W hW hd => ?_) locals_nil
            · refine opLeaves_ev HF rfl fun ev zc zg zf zt => ?_
              have t19 : ev (.tmp 19) = u 3 := zt 19
              have t23 : ev (.tmp 23) = u 7 := zt 23
              clear zt
              have h3 : u 3 = _ := hd 3 (by kernel_rfl)
              have h7 : u 7 = _ := hd 7 (by kernel_rfl)
              have hbn : (ofL t1 != ofL t2) = true := by rw [bne, hbq]; rfl
              exact ev_val (v := .bool true) (by go_simp) rfl
          · intro u6 W6 hW6 hV
            have h8 : u6 8 = _ := hV 8 (by decide)
            clear hV
            go_simp
            go_wp2
            go_ret
            exact ⟨by rw [decide_eq_false (hs2.out ht)]; rfl, hE.tr hW6⟩
      · have hjn : j = n := by omega
        have hfin := Kp.mk (show l1 = l2 by
          rw [List.take_of_length_le (by rw [HN.out]; omega), List.take_of_length_le (by rw [HM.out]; omega)] at hpre
          exact hpre)
        have hle : n ≤ j := by omega
        clear hpre
        go_wp2
        go_ret
        refine ⟨?_, hE⟩
        rw [decide_eq_true hfin.out]
        rfl
  · have hd : decide (l1 = l2) = false := decide_eq_false fun e => hnm (by rw [← hn, ← hm, e])
    rw [hd]
    clear O1 O2 hn hm hd
    go_enter Tryd.func84, Tryd.ntmps84
    go_wp2
    go_ret
    exact ⟨rfl, Ext.rfl' _⟩
end Go.Proofs.YtmnpbpfeoackiaaDoor
