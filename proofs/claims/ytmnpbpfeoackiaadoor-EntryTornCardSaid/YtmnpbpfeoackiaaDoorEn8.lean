/-
  Package entry's reference: the blocks of an entry. Condition: a text of at most 100000 bytes.
-/
import Derived.Test.YtmnpbpfeoackiaaDoorMhE
import Derived.Test.YtmnpbpfeoackiaaDoorSha14
import Derived.Test.YtmnpbpfeoackiaaDoorMhF
namespace Go.Proofs.YtmnpbpfeoackiaaDoor
open Go.RowKit

theorem cut_get : ∀ (k : Nat) (l : List UInt8), 110 * k < l.length → (cutL 110 l)[k]? = some ((l.drop (110 * k)).take 110)
  | 0, l, h => by rw [cutL_cons (by omega) (by omega)]; rfl
  | k + 1, l, h => by
    rw [cutL_cons (by omega) (by omega), List.getElem?_cons_succ, cut_get k (l.drop 110) (by rw [List.length_drop]; omega), List.drop_drop]
    congr 3
    omega
theorem partsE_get {s : List UInt8} {k : Nat} (h : 102 + 110 * k < s.length) : (partsE s)[k + 1]? = some ((s.drop (102 + 110 * k)).take 110) := by
  unfold partsE
  rw [List.getElem?_cons_succ, cut_get k _ (by rw [List.length_drop]; omega), List.drop_drop]
/-- Whether the reference gives blocks. -/
def framesB (gen index kind : Int) (n : Nat) : Bool := decide (n ≤ 65536) && (decide (markN gen index true ≠ 0) && (decide (markN gen (index + blkN n - 1) true ≠ 0) && (decide (0 ≤ kind) && decide (kind ≤ 255))))
theorem framesE_next {gen index kind : Int} {s : List UInt8} {k : Nat} (h : 102 + 110 * k < s.length) : (framesE gen index kind s)[k + 1]? = some (frBytes (markN gen (index + (k + 1 : Nat)) false).toNat 0 ((s.drop (102 + 110 * k)).take 110)) := by
  have h1 := partsE_get h
  obtain ⟨hk, he⟩ := List.getElem?_eq_some_iff.1 h1
  rw [framesE_get hk, he]
  rfl
theorem framesE_zero {gen index kind : Int} {s : List UInt8} : (framesE gen index kind s)[0]? = some (frBytes (markN gen index true).toNat kind.toNat (headE s)) := by
  rw [framesE_get (show 0 < (partsE s).length by unfold partsE; simp)]
  unfold frameE
  simp [partsE]

set_option maxRecDepth 100000 in
set_option maxHeartbeats 4000000 in
theorem rframes_bad (gen index kind : Int) (s : List UInt8) (w : World) (hs : s.length ≤ 100000) (hb : framesB gen index kind s.length = false) : Calls Tryd.prog 37 #[.int .i64 gen, .int .i64 index, .int .i64 kind, .string (ofL s)] w fun e w' => e = .returned (.slice none 0 0) ∧ Ext w w' := by
  obtain ⟨L, hL⟩ : ∃ L, s.length = L := ⟨_, rfl⟩
  have hsz : (ofL s).size = L := by rw [size_ofL, hL]
  have cN := Kp.mk (rblocks_any L w)
  have cM := Kp.mk (rmk_any gen index true w)
  have cM2 := Kp.mk (rmk_any gen (index + blkN L - 1) true w)
  rw [hL] at hb hs
  have hbl := blkN_le (L : Int)
  have hnz := blkN_zero (n := (L : Int))
  obtain ⟨n, hn⟩ : ∃ n, blkN (L : Int) = n := ⟨_, rfl⟩
  obtain ⟨m1, hm1⟩ : ∃ m1, markN gen index true = m1 := ⟨_, rfl⟩
  unfold framesB at hb
  rw [hn] at cN cM2 hbl hnz hb
  obtain ⟨m2, hm2⟩ : ∃ m2, markN gen (index + n - 1) true = m2 := ⟨_, rfl⟩
  have hir : m1 ≠ 0 → 0 ≤ index ∧ index ≤ 4095 := fun h => by
    rw [← hm1] at h
    have h9 : ¬ (gen < 1 ∨ 1099511627776 < gen ∨ index < 0 ∨ 4095 < index) := fun hb => h (markN_bad hb)
    omega
  rw [hm1] at cM hb
  rw [hm2] at cM2 hb
  have hcase : n = 0 ∨ ((n : Int) == 0) = false ∧ m1 = 0 ∨ ((n : Int) == 0) = false ∧ (m1 == 0) = false ∧ (0 ≤ index ∧ index ≤ 4095) ∧ m2 = 0 ∨ ((n : Int) == 0) = false ∧ (m1 == 0) = false ∧ (0 ≤ index ∧ index ≤ 4095) ∧ (m2 == 0) = false ∧ decide (kind < 0) = true ∨ ((n : Int) == 0) = false ∧ (m1 == 0) = false ∧ (0 ≤ index ∧ index ≤ 4095) ∧ (m2 == 0) = false ∧ decide (kind < 0) = false ∧ decide ((255 : Int) < kind) = true := by
    simp only [Bool.and_eq_false_iff, decide_eq_false_iff_not, decide_eq_true_eq, beq_eq_false_iff_ne] at hb ⊢
    by_cases h0 : n = 0
    · exact .inl h0
    · have h65 : ¬ 65536 < L := fun h => h0 (hnz.2 (by omega))
      by_cases hm : m1 = 0
      · omega
      · have := hir hm
        omega
  clear hb hL hm1 hm2 hn hir hnz
  rcases hcase with q1 | ⟨q1, q2⟩ | ⟨q1, q2, q6, q3⟩ | ⟨q1, q2, q6, q3, q4⟩ | ⟨q1, q2, q6, q3, q4, q5⟩
  · subst q1
    go_enter Tryd.func37, Tryd.ntmps37
    go_wp2_with fail
    refine cN.out.mono ?_
    rintro e w ⟨rfl, rfl⟩
    go_wp2
    go_ret
    exact ⟨rfl, Ext.rfl' _⟩
  · subst q2
    go_enter Tryd.func37, Tryd.ntmps37
    go_wp2_with fail
    refine cN.out.mono ?_
    rintro e w ⟨rfl, rfl⟩
    go_wp2_with fail
    refine cM.out.mono ?_
    rintro e w ⟨rfl, rfl⟩
    go_wp2
    go_ret
    exact ⟨rfl, Ext.rfl' _⟩
  · subst q3
    go_enter Tryd.func37, Tryd.ntmps37
    go_wp2_with fail
    refine cN.out.mono ?_
    rintro e w ⟨rfl, rfl⟩
    go_wp2_with fail
    refine cM.out.mono ?_
    rintro e w ⟨rfl, rfl⟩
    go_wp2_with fail
    refine cM2.out.mono ?_
    rintro e w ⟨rfl, rfl⟩
    go_wp2
    go_ret
    exact ⟨rfl, Ext.rfl' _⟩
  all_goals
    go_enter Tryd.func37, Tryd.ntmps37
    go_wp2_with fail
    refine cN.out.mono ?_
    rintro e w ⟨rfl, rfl⟩
    go_wp2_with fail
    refine cM.out.mono ?_
    rintro e w ⟨rfl, rfl⟩
    go_wp2_with fail
    refine cM2.out.mono ?_
    rintro e w ⟨rfl, rfl⟩
    go_wp2
    go_ret
    exact ⟨rfl, Ext.rfl' _⟩

set_option maxRecDepth 100000 in
set_option maxHeartbeats 4000000 in
theorem rframes_ok (gen index kind : Int) (s : List UInt8) (w : World) (hb : framesB gen index kind s.length = true) : Calls Tryd.prog 37 #[.int .i64 gen, .int .i64 index, .int .i64 kind, .string (ofL s)] w fun e w' => ∃ v, e = .returned v ∧ w'.ownsRow w.heap.size 9 1 v (framesE gen index kind s).length ((framesE gen index kind s).map Str) ∧ Ext w w' := by
  unfold framesB at hb
  simp only [Bool.and_eq_true, decide_eq_true_eq] at hb
  obtain ⟨hL0, hb1, hb2, hb3, hb4⟩ := hb
  obtain ⟨L, hL⟩ : ∃ L, s.length = L := ⟨_, rfl⟩
  have hsz : (ofL s).size = L := by rw [size_ofL, hL]
  have cN := Kp.mk (rblocks_any L w)
  have cM := Kp.mk (rmk_any gen index true w)
  have cM2 := Kp.mk (rmk_any gen (index + blkN L - 1) true w)
  have hFl := length_framesE gen index kind s
  rw [length_partsE hL0] at hFl
  have hb0 := hb1
  have hgi : 1 ≤ gen ∧ gen ≤ 1099511627776 ∧ 0 ≤ index ∧ index ≤ 4095 := by
    have h : ¬ (gen < 1 ∨ 1099511627776 < gen ∨ index < 0 ∨ 4095 < index) := fun hb => hb0 (markN_bad hb)
    omega
  have hlast : index + blkN s.length - 1 ≤ 4095 := by
    have h : ¬ (gen < 1 ∨ 1099511627776 < gen ∨ index + blkN s.length - 1 < 0 ∨ 4095 < index + blkN s.length - 1) := fun hb => hb2 (markN_bad hb)
    omega
  have hn1 : 1 ≤ blkN (s.length : Int) := by
    rcases Nat.eq_zero_or_pos (blkN (s.length : Int)) with h | h
    · have := blkN_zero.1 h; omega
    · exact h
  have hbl := blkN_le (s.length : Int)
  have hnL : ∀ k : Nat, 102 + 110 * k < s.length ↔ k + 1 < blkN (s.length : Int) := by
    intro k
    by_cases h : s.length ≤ 102
    · rw [blkN_one (by omega) (by omega)]; omega
    · rw [blkN_more (by omega) (by omega)]; omega
  rw [hL] at hL0 hb2 hlast hn1 hbl hnL hFl
  obtain ⟨n, hn⟩ : ∃ n, blkN (L : Int) = n := ⟨_, rfl⟩
  obtain ⟨m1, hm1⟩ : ∃ m1, markN gen index true = m1 := ⟨_, rfl⟩
  rw [hn] at cN cM2 hlast hn1 hbl hnL hb2 hFl
  obtain ⟨m2, hm2⟩ : ∃ m2, markN gen (index + n - 1) true = m2 := ⟨_, rfl⟩
  obtain ⟨ix, rfl⟩ : ∃ ix : Nat, index = ix := ⟨index.toNat, by omega⟩
  obtain ⟨kd, rfl⟩ : ∃ kd : Nat, kind = kd := ⟨kind.toNat, by omega⟩
  rw [hm1] at cM hb1
  rw [hm2] at cM2 hb2
  have q1 : ((n : Int) == 0) = false := by simp; omega
  have q2 : (m1 == 0) = false := by simp; exact hb1
  have q3 : (m2 == 0) = false := by simp; exact hb2
  have q4 : decide ((kd : Int) < 0) = false := by simp
  have q5 : decide ((255 : Int) < (kd : Int)) = false := by simp; omega
  obtain ⟨f, hf⟩ : ∃ f, min 102 L = f := ⟨_, rfl⟩
  have hfL : f ≤ L := by omega
  obtain ⟨F, hF⟩ : ∃ F, framesE gen ix kd s = F := ⟨_, rfl⟩
  rw [hF] at hFl
  rw [hF]
  have HFE := Kp.mk hF; have HNL := Kp.mk hnL; have HL := Kp.mk hL; have HF := Kp.mk hf; have HFL := Kp.mk hFl; have HM1 := Kp.mk hm1; have HN := Kp.mk hn; have HB0 := Kp.mk hb0
  clear hnL hL hFl hm1 hm2 hn hb0 hb1 hb2 hF
  go_enter Tryd.func37, Tryd.ntmps37
  go_wp2_with fail
  refine cN.out.mono ?_
  rintro e w ⟨rfl, rfl⟩
  go_wp2_with fail
  refine cM.out.mono ?_
  rintro e w ⟨rfl, rfl⟩
  go_wp2_with fail
  refine cM2.out.mono ?_
  rintro e w ⟨rfl, rfl⟩
  obtain ⟨X, hX⟩ : ∃ X, sumL s = X := ⟨_, rfl⟩
  obtain ⟨H, hH⟩ : ∃ H, headE s = H := ⟨_, rfl⟩
  have hXl : X.length = 32 := by rw [← hX]; exact length_sumL s
  have cS := Kp.mk (show ∀ W : World, Calls Tryd.prog 81 #[.string (ofL s)] W fun e w' => e = .returned (.string (ofL X)) ∧ Ext W w' from fun W => by rw [← hX]; exact rsum_any s W (by rw [HL.out]; omega))
  have cN4 := Kp.mk (show ∀ W : World, Calls Tryd.prog 80 #[.int .i64 L] W fun e w' => e = .returned (.string (ofL (leN 4 L))) ∧ Ext W w' from fun W => rnum4_any L (by omega) W)
  have cMr := Kp.mk (show ∀ W : World, Calls Tryd.prog 33 #[.int .i64 gen, .int .i64 ix, .bool true] W fun e w' => e = .returned (.int .i64 m1) ∧ Ext W w' from fun W => (rmk_any gen ix true W).mono fun e w' ⟨h1, h2⟩ => ⟨by rw [h1, HM1.out], by rw [h2]; exact Ext.rfl' W⟩)
  have hH110 : H.length ≤ 110 := by rw [← hH, length_headE]; omega
  have hm1b := markN_lt gen ix true
  rw [HM1.out] at hm1b
  have hm10 : m1 ≠ 0 := by rw [← HM1.out]; exact HB0.out
  have hp0 : frPut ⟨m1, kd, H⟩ = (frBytes m1.toNat kd H, 0) := by
    rw [frPut_ok (by dsimp only; omega) (by dsimp only; omega)]
    rfl
  have hF := HFE.out
  have hF0 : F[0]? = some (frBytes m1.toNat kd H) := by rw [← hF, framesE_zero, HM1.out, hH]; rfl
  obtain ⟨B0, hB0⟩ : ∃ B0, frBytes m1.toNat kd H = B0 := ⟨_, rfl⟩
  rw [hB0] at hp0 hF0
  have cP0 := Kp.mk (show ∀ W : World, Calls Tryd.prog 79 #[.int .i64 m1, .int .i64 kd, .string (ofL H)] W fun e w' => e = .returned (.tuple #[.string (ofL B0), .int .i64 0]) ∧ Ext W w' from fun W => by
    have q := rfput ⟨m1, kd, H⟩ W hm1b.2
    rw [hp0] at q
    exact q)
  have hcat : ofL (leN 4 L ++ X.take 4) ++ ofL (s.take f) = ofL H := by
    rw [ofL_append, ← hH]
    unfold headE
    rw [hX, HL.out, List.append_assoc]
    congr 3
    have := HF.out; have := HL.out
    rcases Nat.le_total 102 L with h | h
    · rw [show f = 102 by omega]
    · rw [List.take_of_length_le (by omega), List.take_of_length_le (by omega)]
  have HCAT := Kp.mk hcat; have HXL := Kp.mk hXl; have HF0 := Kp.mk hF0
  clear hcat hX hH hp0 hF hF0 hB0 hm1b hH110 hXl hm10
  by_cases h102 : 102 < L
  · have hlt : decide ((102 : Int) < (L : Int)) = true := by simp; omega
    have hif : (102 : Int) = (f : Int) := by have := HF.out; omega
    have HIF := Kp.mk hif
    clear h102 hif
    go_upto_region 7 with fail
    rw [HIF.out]
    clear HIF
    clear hlt
    refine wp_region_stageE [] (fun bs W => Ext w W) (fun bs i v W => match i with
      | 0 => v = .int .i64 gen
      | 1 => v = .int .i64 ix
      | 2 => v = .int .i64 m1
      | 3 => v = .int .i64 kd
      | 4 => v = .string (ofL s)
      | 5 => v = .int .i64 L
      | 6 => v = .string (ofL (leN 4 L))
      | 7 => v = .string (ofL s)
      | 8 => v = .string (ofL X)
      | 9 => v = .string (ofL (X.take 4))
      | 10 => v = .string (ofL (leN 4 L ++ X.take 4))
      | 11 => v = .string (ofL s)
      | 12 => v = .int .i64 f
      | 13 => v = .string (ofL (s.take f))
      | 14 => v = .string (ofL H)
      | 15 => v = .tuple #[.string (ofL B0), .int .i64 0]
      | 16 => v = .tuple #[.string (ofL B0), .int .i64 0]
      | 17 => v = .string (ofL B0)
      | 18 => v = .int .i64 0
      | 19 => v = .string (ofL B0)
      | 20 => v = .int .i64 0
      | _ => True) (cs_inj (by decide)) (by decide) (by kernel_rfl) (by kernel_rfl) (by kernel_rfl) (by kernel_rfl) ((Ext.rfl' w).dr) (fun bs W1 W2 h e => h.tr e) ?_ ?_ ?_
    · intro bs i v W1 W2 e1 e2 h
      match i, h with
      | 0, h => exact h
      | 1, h => exact h
      | 2, h => exact h
      | 3, h => exact h
      | 4, h => exact h
      | 5, h => exact h
      | 6, h => exact h
      | 7, h => exact h
      | 8, h => exact h
      | 9, h => exact h
      | 10, h => exact h
      | 11, h => exact h
      | 12, h => exact h
      | 13, h => exact h
      | 14, h => exact h
      | 15, h => exact h
      | 16, h => exact h
      | 17, h => exact h
      | 18, h => exact h
      | 19, h => exact h
      | 20, h => exact h
      | (i + 21), h => exact h
    · intro HF
      refine localsQ_ord (by decide) (fun bs u W hbs hW hno hd => ?_) ?_
      · refine opLeaves_ev HF rfl fun ev zc zg zf zt => ?_
        have t0 : ev (.tmp 0) = .int .i64 gen := zt 0
        clear zt
        exact ev_val (v := .int .i64 gen) (by go_simp) rfl
      refine localsQ_ord (by decide) (fun bs u W hbs hW hno hd => ?_) ?_
      · refine opLeaves_ev HF rfl fun ev zc zg zf zt => ?_
        have t1 : ev (.tmp 1) = .int .i64 ix := zt 1
        clear zt
        exact ev_val (v := .int .i64 ix) (by go_simp) rfl
      refine localsQ_ord (by decide) (fun bs u W hbs hW hno hd => ?_) ?_
      · refine opLeaves_ev HF rfl fun ev zc zg zf zt => ?_
        have t50 : ev (.tmp 50) = u 0 := zt 50
        have t51 : ev (.tmp 51) = u 1 := zt 51
        clear zt
        have h0 : u 0 = _ := hd 0 (by kernel_rfl)
        have h1 : u 1 = _ := hd 1 (by kernel_rfl)
        exact ev_call (f := 33) (args := #[.int .i64 gen, .int .i64 ix, .bool true]) (by go_simp) ((cMr.out W).mono (by rintro e9 W9 ⟨rfl, h9⟩; exact ⟨_, rfl, h9, rfl⟩))
      refine localsQ_ord (by decide) (fun bs u W hbs hW hno hd => ?_) ?_
      · refine opLeaves_ev HF rfl fun ev zc zg zf zt => ?_
        have t2 : ev (.tmp 2) = .int .i64 kd := zt 2
        clear zt
        exact ev_val (v := .int .i64 kd) (by go_simp) rfl
      refine localsQ_ord (by decide) (fun bs u W hbs hW hno hd => ?_) ?_
      · refine opLeaves_ev HF rfl fun ev zc zg zf zt => ?_
        have t3 : ev (.tmp 3) = .string (ofL s) := zt 3
        clear zt
        exact ev_val (v := .string (ofL s)) (by go_simp) rfl
      refine localsQ_ord (by decide) (fun bs u W hbs hW hno hd => ?_) ?_
      · refine opLeaves_ev HF rfl fun ev zc zg zf zt => ?_
        have t54 : ev (.tmp 54) = u 4 := zt 54
        clear zt
        have h4 : u 4 = _ := hd 4 (by kernel_rfl)
        exact ev_val (v := .int .i64 L) (by go_simp) rfl
      refine localsQ_ord (by decide) (fun bs u W hbs hW hno hd => ?_) ?_
      · refine opLeaves_ev HF rfl fun ev zc zg zf zt => ?_
        have t55 : ev (.tmp 55) = u 5 := zt 55
        clear zt
        have h5 : u 5 = _ := hd 5 (by kernel_rfl)
        exact ev_call (f := 80) (args := #[.int .i64 L]) (by go_simp) ((cN4.out W).mono (by rintro e9 W9 ⟨rfl, h9⟩; exact ⟨_, rfl, h9, rfl⟩))
      refine localsQ_ord (by decide) (fun bs u W hbs hW hno hd => ?_) ?_
      · refine opLeaves_ev HF rfl fun ev zc zg zf zt => ?_
        have t3 : ev (.tmp 3) = .string (ofL s) := zt 3
        clear zt
        exact ev_val (v := .string (ofL s)) (by go_simp) rfl
      refine localsQ_ord (by decide) (fun bs u W hbs hW hno hd => ?_) ?_
      · refine opLeaves_ev HF rfl fun ev zc zg zf zt => ?_
        have t57 : ev (.tmp 57) = u 7 := zt 57
        clear zt
        have h7 : u 7 = _ := hd 7 (by kernel_rfl)
        exact ev_call (f := 81) (args := #[.string (ofL s)]) (by go_simp) ((cS.out W).mono (by rintro e9 W9 ⟨rfl, h9⟩; exact ⟨_, rfl, h9, rfl⟩))
      refine localsQ_ord (by decide) (fun bs u W hbs hW hno hd => ?_) ?_
      · refine opLeaves_ev HF rfl fun ev zc zg zf zt => ?_
        have t58 : ev (.tmp 58) = u 8 := zt 58
        clear zt
        have h8 : u 8 = _ := hd 8 (by kernel_rfl)
        have x4 : (ofL X).extract 0 4 = ofL (X.take 4) := by rw [extract_to, toL_ofL]
        have z4 : (ofL X).size = 32 := by rw [size_ofL]; exact HXL.out
        exact ev_val (v := .string (ofL (X.take 4))) (by go_simp) rfl
      refine localsQ_ord (by decide) (fun bs u W hbs hW hno hd => ?_) ?_
      · refine opLeaves_ev HF rfl fun ev zc zg zf zt => ?_
        have t56 : ev (.tmp 56) = u 6 := zt 56
        have t59 : ev (.tmp 59) = u 9 := zt 59
        clear zt
        have h6 : u 6 = _ := hd 6 (by kernel_rfl)
        have h9 : u 9 = _ := hd 9 (by kernel_rfl)
        have e10 := ofL_append (leN 4 L) (X.take 4)
        have b10 : (leN 4 L).length + min 4 X.length ≤ 9223372036854775807 := by rw [length_leN]; omega
        exact ev_val (v := .string (ofL (leN 4 L ++ X.take 4))) (by go_simp) rfl
      refine localsQ_ord (by decide) (fun bs u W hbs hW hno hd => ?_) ?_
      · refine opLeaves_ev HF rfl fun ev zc zg zf zt => ?_
        have t3 : ev (.tmp 3) = .string (ofL s) := zt 3
        clear zt
        exact ev_val (v := .string (ofL s)) (by go_simp) rfl
      refine localsQ_ord (by decide) (fun bs u W hbs hW hno hd => ?_) ?_
      · refine opLeaves_ev HF rfl fun ev zc zg zf zt => ?_
        have t10 : ev (.tmp 10) = .int .i64 f := zt 10
        clear zt
        exact ev_val (v := .int .i64 f) (by go_simp) rfl
      refine localsQ_ord (by decide) (fun bs u W hbs hW hno hd => ?_) ?_
      · refine opLeaves_ev HF rfl fun ev zc zg zf zt => ?_
        have t61 : ev (.tmp 61) = u 11 := zt 61
        have t62 : ev (.tmp 62) = u 12 := zt 62
        clear zt
        have h11 : u 11 = _ := hd 11 (by kernel_rfl)
        have h12 : u 12 = _ := hd 12 (by kernel_rfl)
        have x13 : (ofL s).extract 0 f = ofL (s.take f) := by rw [extract_to, toL_ofL]
        exact ev_val (v := .string (ofL (s.take f))) (by go_simp) rfl
      refine localsQ_ord (by decide) (fun bs u W hbs hW hno hd => ?_) ?_
      · refine opLeaves_ev HF rfl fun ev zc zg zf zt => ?_
        have t60 : ev (.tmp 60) = u 10 := zt 60
        have t63 : ev (.tmp 63) = u 13 := zt 63
        clear zt
        have h10 : u 10 = _ := hd 10 (by kernel_rfl)
        have h13 : u 13 = _ := hd 13 (by kernel_rfl)
        have e14 := HCAT.out
        have b14 : (leN 4 L).length + min 4 X.length + min f s.length ≤ 9223372036854775807 := by rw [length_leN]; omega
        exact ev_val (v := .string (ofL H)) (by go_simp) rfl
      refine localsQ_ord (by decide) (fun bs u W hbs hW hno hd => ?_) ?_
      · refine opLeaves_ev HF rfl fun ev zc zg zf zt => ?_
        have t52 : ev (.tmp 52) = u 2 := zt 52
        have t53 : ev (.tmp 53) = u 3 := zt 53
        have t64 : ev (.tmp 64) = u 14 := zt 64
        clear zt
        have h2 : u 2 = _ := hd 2 (by kernel_rfl)
        have h3 : u 3 = _ := hd 3 (by kernel_rfl)
        have h14 : u 14 = _ := hd 14 (by kernel_rfl)
        exact ev_call (f := 79) (args := #[.int .i64 m1, .int .i64 kd, .string (ofL H)]) (by go_simp) ((cP0.out W).mono (by rintro e9 W9 ⟨rfl, h9⟩; exact ⟨_, rfl, h9, rfl⟩))
      refine localsQ_ord (by decide) (fun bs u W hbs hW hno hd => ?_) ?_
      · refine opLeaves_ev HF rfl fun ev zc zg zf zt => ?_
        have t65 : ev (.tmp 65) = u 15 := zt 65
        clear zt
        have h15 : u 15 = _ := hd 15 (by kernel_rfl)
        exact ev_val (v := .tuple #[.string (ofL B0), .int .i64 0]) (by go_simp) rfl
      refine localsQ_ord (by decide) (fun bs u W hbs hW hno hd => ?_) ?_
      · refine opLeaves_ev HF rfl fun ev zc zg zf zt => ?_
        have t49 : ev (.tmp 49) = u 16 := zt 49
        clear zt
        have h16 : u 16 = _ := hd 16 (by kernel_rfl)
        exact ev_val (v := .string (ofL B0)) (by go_simp) rfl
      refine localsQ_ord (by decide) (fun bs u W hbs hW hno hd => ?_) ?_
      · refine opLeaves_ev HF rfl fun ev zc zg zf zt => ?_
        have t49 : ev (.tmp 49) = u 16 := zt 49
        clear zt
        have h16 : u 16 = _ := hd 16 (by kernel_rfl)
        exact ev_val (v := .int .i64 0) (by go_simp) rfl
      refine localsQ_ord (by decide) (fun bs u W hbs hW hno hd => ?_) ?_
      · refine opLeaves_ev HF rfl fun ev zc zg zf zt => ?_
        have t66 : ev (.tmp 66) = u 17 := zt 66
        clear zt
        have h17 : u 17 = _ := hd 17 (by kernel_rfl)
        exact ev_val (v := .string (ofL B0)) (by go_simp) rfl
      refine localsQ_ord (by decide) (fun bs u W hbs hW hno hd => ?_) localsQ_nil
      · refine opLeaves_ev HF rfl fun ev zc zg zf zt => ?_
        have t67 : ev (.tmp 67) = u 18 := zt 67
        clear zt
        have h18 : u 18 = _ := hd 18 (by kernel_rfl)
        exact ev_val (v := .int .i64 0) (by go_simp) rfl
    · intro u7 W7 hW7 hV
      have h19 : u7 19 = _ := hV 19 (by decide)
      have h20 : u7 20 = _ := hV 20 (by decide)
      clear hV cS cN4 cMr cP0
      go_simp
      go_upto_region 9 with fail
      obtain ⟨V8, hV8, O8, E8⟩ : ∃ V, W7.alloc (.cells #[.string (ofL B0)] 9) = V ∧ V.ownsRow w.heap.size 9 1 (.slice (some ⟨W7.heap.size, 0, none⟩) 1 1) 1 ((F.take 1).map Str) ∧ Ext w V := by
        refine ⟨_, rfl, own_eq (World.ownsRow_lit W7 #[.string (ofL B0)] 1 hW7.size (by decide) rfl) ?_ rfl, hW7.al _⟩
        have := HF0.out
        cases F with
        | nil => cases this
        | cons b r => rw [Option.some.inj this]; rfl
      rw [hV8]
      clear hV8 hW7 h19 h20 HCAT HXL HF0
      go_loopw [13, 10] (fun o i wr => ∃ j a : Nat, j + 1 ≤ n ∧ i = .int .i64 a ∧ a = min (102 + 110 * j) L ∧ Ext w wr ∧ wr.ownsRow w.heap.size 9 1 o (j + 1) ((F.take (j + 1)).map Str)) (fun _ i _ => L - (intOf i).toNat)
      case atStart => exact ⟨0, f, by omega, rfl, by have := HF.out; omega, E8, O8⟩
      case round =>
        clear E8 O8
        obtain ⟨j, a, hj, rfl, ha, hE, hown⟩ := hrel
        obtain ⟨A, c, hv⟩ := own_slice hown
        subst hv
        by_cases hlt : j + 1 < n
        · have haL : a < L := by have := (HNL.out j).2 hlt; omega
          have haj : a = 102 + 110 * j := by have := (HNL.out j).2 hlt; omega
          have hdl : decide ((a : Int) < (L : Int)) = true := by simp; omega
          have HA := Kp.mk ha
          clear ha
          obtain ⟨t, ht⟩ : ∃ t, (s.drop a).take 110 = t := ⟨_, rfl⟩
          obtain ⟨mk, hmk⟩ : ∃ mk, markN gen ((ix : Int) + (j + 1 : Nat)) false = mk := ⟨_, rfl⟩
          have hFn : F[j + 1]? = some (frBytes mk.toNat 0 t) := by
            rw [← HFE.out, framesE_next (k := j) (by rw [HL.out]; omega), hmk, ← ht, haj]
          obtain ⟨B, hB⟩ : ∃ B, frBytes mk.toNat 0 t = B := ⟨_, rfl⟩
          rw [hB] at hFn
          have hmb := markN_lt gen ((ix : Int) + (j + 1 : Nat)) false
          have hm0 : mk ≠ 0 := by
            rw [← hmk]
            intro h
            have := markN_zero.1 h
            omega
          rw [hmk] at hmb
          have htl : t.length ≤ 110 := by rw [← ht, List.length_take]; omega
          have hp : frPut ⟨mk, 0, t⟩ = (B, 0) := by
            rw [frPut_ok (by dsimp only; omega) (by dsimp only; omega), ← hB]
            rfl
          have cP := Kp.mk (show ∀ W : World, Calls Tryd.prog 79 #[.int .i64 mk, .int .i64 0, .string (ofL t)] W fun e w' => e = .returned (.tuple #[.string (ofL B), .int .i64 0]) ∧ Ext W w' from fun W => by
            have q := rfput ⟨mk, 0, t⟩ W hmb.2
            rw [hp] at q
            exact q)
          have cM := Kp.mk (show ∀ W : World, Calls Tryd.prog 33 #[.int .i64 gen, .int .i64 ((ix : Int) + (j + 1 : Nat)), .bool false] W fun e w' => e = .returned (.int .i64 mk) ∧ Ext W w' from fun W => (rmk_any gen ((ix : Int) + (j + 1 : Nat)) false W).mono fun e w' ⟨h1, h2⟩ => ⟨by rw [h1, hmk], by rw [h2]; exact Ext.rfl' W⟩)
          have hFk := Kp.mk (show (F.take (j + 1)).map Str ++ [.string (ofL B)] = (F.take (j + 1 + 1)).map Str by
            obtain ⟨h1, h2⟩ := List.getElem?_eq_some_iff.1 hFn
            rw [List.take_succ_eq_append_getElem h1, List.map_append, h2]
            rfl)
          have hex := Kp.mk (show ∀ e : Nat, e ≤ L → (e = a + 110 ∨ e = L ∧ L ≤ a + 110) → (ofL s).extract a e = ofL t from fun e he h => by
            rw [extract_mid, toL_ofL, ← ht]
            rcases h with rfl | ⟨rfl, h⟩
            · rw [show a + 110 - a = 110 by omega]
            · rw [List.take_of_length_le (by rw [List.length_drop, HL.out]; omega), List.take_of_length_le (by rw [List.length_drop, HL.out]; omega)])
          have HLT := Kp.mk hlt
          clear hFn hB hmb hm0 hp htl ht hmk hlt
          by_cases h110 : a + 110 < L
          · have hgt : decide ((110 : Int) < (L : Int) - (a : Int)) = true := by simp; omega
            have hwr : IntKind.i64.wrap ((L : Int) - a) = (L : Int) - a := IntWalk.i64_in _ (by omega)
            have hwr2 : IntKind.i64.wrap ((a : Int) + 110) = (a : Int) + 110 := IntWalk.i64_in _ (by omega)
            have heL : a + 110 ≤ L := by omega
            have hx := hex.out (a + 110) heL (.inl rfl)
            have hen := HA.out
            replace hen : min (102 + 110 * (j + 1)) L = a + 110 := by omega
            have he1 : (a : Int) + 110 = ((a + 110 : Nat) : Int) := by omega
            obtain ⟨e, he⟩ : ∃ e, a + 110 = e := ⟨_, rfl⟩
            rw [he] at heL hx hen he1
            have HAE := Kp.mk (show a < e from by omega)
            have HEN := Kp.mk hen; have HE1 := Kp.mk he1; have HX := Kp.mk hx; have HEL := Kp.mk heL
            clear hex h110 he haj hen he1 hx heL
            go_upto_region 13 with fail
            rw [HE1.out]
            clear hdl hgt HE1
            refine wp_region_stageE [] (fun bs W => Ext wr W) (fun bs i v W => match i with
              | 0 => v = .int .i64 gen
              | 1 => v = .int .i64 ix
              | 2 => v = .slice A (j + 1) c
              | 3 => v = .int .i64 ((j + 1 : Nat) : Int)
              | 4 => v = .int .i64 ((ix : Int) + (j + 1 : Nat))
              | 5 => v = .int .i64 mk
              | 6 => v = .string (ofL s)
              | 7 => v = .int .i64 a
              | 8 => v = .int .i64 e
              | 9 => v = .string (ofL t)
              | 10 => v = .tuple #[.string (ofL B), .int .i64 0]
              | 11 => v = .tuple #[.string (ofL B), .int .i64 0]
              | 12 => v = .string (ofL B)
              | 13 => v = .int .i64 0
              | 14 => v = .string (ofL B)
              | 15 => v = .int .i64 0
              | _ => True) (cs_inj (by decide)) (by decide) (by kernel_rfl) (by kernel_rfl) (by kernel_rfl) (by kernel_rfl) ((Ext.rfl' wr).dr) (fun bs W1 W2 h e => h.tr e) ?_ ?_ ?_
            · intro bs i v W1 W2 e1 e2 h
              match i, h with
              | 0, h => exact h
              | 1, h => exact h
              | 2, h => exact h
              | 3, h => exact h
              | 4, h => exact h
              | 5, h => exact h
              | 6, h => exact h
              | 7, h => exact h
              | 8, h => exact h
              | 9, h => exact h
              | 10, h => exact h
              | 11, h => exact h
              | 12, h => exact h
              | 13, h => exact h
              | 14, h => exact h
              | 15, h => exact h
              | (i + 16), h => exact h
            · intro HF
              refine localsQ_ord (by decide) (fun bs u W hbs hW hno hd => ?_) ?_
              · refine opLeaves_ev HF rfl fun ev zc zg zf zt => ?_
                have t0 : ev (.tmp 0) = .int .i64 gen := zt 0
                clear zt
                exact ev_val (v := .int .i64 gen) (by go_simp) rfl
              refine localsQ_ord (by decide) (fun bs u W hbs hW hno hd => ?_) ?_
              · refine opLeaves_ev HF rfl fun ev zc zg zf zt => ?_
                have t1 : ev (.tmp 1) = .int .i64 ix := zt 1
                clear zt
                exact ev_val (v := .int .i64 ix) (by go_simp) rfl
              refine localsQ_ord (by decide) (fun bs u W hbs hW hno hd => ?_) ?_
              · refine opLeaves_ev HF rfl fun ev zc zg zf zt => ?_
                have t13 : ev (.tmp 13) = .slice A (j + 1) c := zt 13
                clear zt
                exact ev_val (v := .slice A (j + 1) c) (by go_simp) rfl
              refine localsQ_ord (by decide) (fun bs u W hbs hW hno hd => ?_) ?_
              · refine opLeaves_ev HF rfl fun ev zc zg zf zt => ?_
                have t85 : ev (.tmp 85) = u 2 := zt 85
                clear zt
                have h2 : u 2 = _ := hd 2 (by kernel_rfl)
                exact ev_val (v := .int .i64 ((j + 1 : Nat) : Int)) (by go_simp) rfl
              refine localsQ_ord (by decide) (fun bs u W hbs hW hno hd => ?_) ?_
              · refine opLeaves_ev HF rfl fun ev zc zg zf zt => ?_
                have t84 : ev (.tmp 84) = u 1 := zt 84
                have t86 : ev (.tmp 86) = u 3 := zt 86
                clear zt
                have h1 : u 1 = _ := hd 1 (by kernel_rfl)
                have h3 : u 3 = _ := hd 3 (by kernel_rfl)
                have hw4 : IntKind.i64.wrap ((ix : Int) + (j + 1 : Nat)) = (ix : Int) + (j + 1 : Nat) := IntWalk.i64_in _ (by omega)
                have hw5 : IntKind.i64.wrap ((ix : Int) + ((j : Int) + 1)) = (ix : Int) + (j + 1 : Nat) := by rw [show (ix : Int) + ((j : Int) + 1) = (ix : Int) + (j + 1 : Nat) by omega]; exact hw4
                exact ev_val (v := .int .i64 ((ix : Int) + (j + 1 : Nat))) (by go_simp) rfl
              refine localsQ_ord (by decide) (fun bs u W hbs hW hno hd => ?_) ?_
              · refine opLeaves_ev HF rfl fun ev zc zg zf zt => ?_
                have t83 : ev (.tmp 83) = u 0 := zt 83
                have t87 : ev (.tmp 87) = u 4 := zt 87
                clear zt
                have h0 : u 0 = _ := hd 0 (by kernel_rfl)
                have h4 : u 4 = _ := hd 4 (by kernel_rfl)
                exact ev_call (f := 33) (args := #[.int .i64 gen, .int .i64 ((ix : Int) + (j + 1 : Nat)), .bool false]) (by go_simp) ((cM.out W).mono (by rintro e9 W9 ⟨rfl, h9⟩; exact ⟨_, rfl, h9, rfl⟩))
              refine localsQ_ord (by decide) (fun bs u W hbs hW hno hd => ?_) ?_
              · refine opLeaves_ev HF rfl fun ev zc zg zf zt => ?_
                have t3 : ev (.tmp 3) = .string (ofL s) := zt 3
                clear zt
                exact ev_val (v := .string (ofL s)) (by go_simp) rfl
              refine localsQ_ord (by decide) (fun bs u W hbs hW hno hd => ?_) ?_
              · refine opLeaves_ev HF rfl fun ev zc zg zf zt => ?_
                have t10 : ev (.tmp 10) = .int .i64 a := zt 10
                clear zt
                exact ev_val (v := .int .i64 a) (by go_simp) rfl
              refine localsQ_ord (by decide) (fun bs u W hbs hW hno hd => ?_) ?_
              · refine opLeaves_ev HF rfl fun ev zc zg zf zt => ?_
                have t14 : ev (.tmp 14) = .int .i64 e := zt 14
                clear zt
                exact ev_val (v := .int .i64 e) (by go_simp) rfl
              refine localsQ_ord (by decide) (fun bs u W hbs hW hno hd => ?_) ?_
              · refine opLeaves_ev HF rfl fun ev zc zg zf zt => ?_
                have t89 : ev (.tmp 89) = u 6 := zt 89
                have t90 : ev (.tmp 90) = u 7 := zt 90
                have t91 : ev (.tmp 91) = u 8 := zt 91
                clear zt
                have h6 : u 6 = _ := hd 6 (by kernel_rfl)
                have h7 : u 7 = _ := hd 7 (by kernel_rfl)
                have h8 : u 8 = _ := hd 8 (by kernel_rfl)
                have x9 := HX.out
                have y9 : a ≤ e := Nat.le_of_lt HAE.out
                have z9 := HEL.out
                exact ev_val (v := .string (ofL t)) (by go_simp) rfl
              refine localsQ_ord (by decide) (fun bs u W hbs hW hno hd => ?_) ?_
              · refine opLeaves_ev HF rfl fun ev zc zg zf zt => ?_
                have t88 : ev (.tmp 88) = u 5 := zt 88
                have t92 : ev (.tmp 92) = u 9 := zt 92
                clear zt
                have h5 : u 5 = _ := hd 5 (by kernel_rfl)
                have h9 : u 9 = _ := hd 9 (by kernel_rfl)
                exact ev_call (f := 79) (args := #[.int .i64 mk, .int .i64 0, .string (ofL t)]) (by go_simp) ((cP.out W).mono (by rintro e9 W9 ⟨rfl, h9⟩; exact ⟨_, rfl, h9, rfl⟩))
              refine localsQ_ord (by decide) (fun bs u W hbs hW hno hd => ?_) ?_
              · refine opLeaves_ev HF rfl fun ev zc zg zf zt => ?_
                have t93 : ev (.tmp 93) = u 10 := zt 93
                clear zt
                have h10 : u 10 = _ := hd 10 (by kernel_rfl)
                exact ev_val (v := .tuple #[.string (ofL B), .int .i64 0]) (by go_simp) rfl
              refine localsQ_ord (by decide) (fun bs u W hbs hW hno hd => ?_) ?_
              · refine opLeaves_ev HF rfl fun ev zc zg zf zt => ?_
                have t82 : ev (.tmp 82) = u 11 := zt 82
                clear zt
                have h11 : u 11 = _ := hd 11 (by kernel_rfl)
                exact ev_val (v := .string (ofL B)) (by go_simp) rfl
              refine localsQ_ord (by decide) (fun bs u W hbs hW hno hd => ?_) ?_
              · refine opLeaves_ev HF rfl fun ev zc zg zf zt => ?_
                have t82 : ev (.tmp 82) = u 11 := zt 82
                clear zt
                have h11 : u 11 = _ := hd 11 (by kernel_rfl)
                exact ev_val (v := .int .i64 0) (by go_simp) rfl
              refine localsQ_ord (by decide) (fun bs u W hbs hW hno hd => ?_) ?_
              · refine opLeaves_ev HF rfl fun ev zc zg zf zt => ?_
                have t94 : ev (.tmp 94) = u 12 := zt 94
                clear zt
                have h12 : u 12 = _ := hd 12 (by kernel_rfl)
                exact ev_val (v := .string (ofL B)) (by go_simp) rfl
              refine localsQ_ord (by decide) (fun bs u W hbs hW hno hd => ?_) localsQ_nil
              · refine opLeaves_ev HF rfl fun ev zc zg zf zt => ?_
                have t95 : ev (.tmp 95) = u 13 := zt 95
                clear zt
                have h13 : u 13 = _ := hd 13 (by kernel_rfl)
                exact ev_val (v := .int .i64 0) (by go_simp) rfl
            · intro u9 W9 hW9 hV
              have h14 : u9 14 = _ := hV 14 (by decide)
              have h15 : u9 15 = _ := hV 15 (by decide)
              clear hV cP cM
              go_simp
              have O9 := own_ext hown (fun i _ hi => hW9.block i hi)
              have E9 := hE.tr hW9
              clear hE hown hW9
              go_wp2_with (at_builtin; refine wpl_app Tryd.elemStr rfl _ _ rfl O9 1 rfl rfl rfl (by intro u hu; simp at hu; rw [hu]; rfl) (by omega) (by omega) E9.size ?_; intro v5 w5 O5 hg5; have F5 := E9.own hg5 O9 (Nat.le_refl _); clear O9 hg5 E9)
              go_roundw
              case rel => exact ⟨j + 1, e, HLT.out, rfl, HEN.out.symm, F5, own_eq O5 hFk.out rfl⟩
              case measure => have := HAE.out; have := HEL.out; simp [intOf]; omega
          · have hgt : decide ((110 : Int) < (L : Int) - (a : Int)) = false := by simp; omega
            have hwr : IntKind.i64.wrap ((L : Int) - a) = (L : Int) - a := IntWalk.i64_in _ (by omega)
            have hx := hex.out L (Nat.le_refl _) (.inr ⟨rfl, by omega⟩)
            have heL : L ≤ L := Nat.le_refl _
            have hen : min (102 + 110 * (j + 1)) L = L := by omega
            obtain ⟨e, he⟩ : ∃ e, L = e := ⟨_, rfl⟩
            have he1 : (L : Int) = (e : Int) := by omega
            have HAE := Kp.mk (show a < e from by omega)
            have HEN := Kp.mk (show min (102 + 110 * (j + 1)) L = e from by omega)
            have HX := Kp.mk (show (ofL s).extract a e = ofL t from by rw [← he]; exact hx)
            have HE1 := Kp.mk he1; have HEL := Kp.mk (show e ≤ L from by omega)
            clear hex h110 he haj hen he1 hx heL
            go_upto_region 13 with fail
            rw (occs := .pos [1]) [HE1.out]
            clear hdl hgt HE1
            refine wp_region_stageE [] (fun bs W => Ext wr W) (fun bs i v W => match i with
              | 0 => v = .int .i64 gen
              | 1 => v = .int .i64 ix
              | 2 => v = .slice A (j + 1) c
              | 3 => v = .int .i64 ((j + 1 : Nat) : Int)
              | 4 => v = .int .i64 ((ix : Int) + (j + 1 : Nat))
              | 5 => v = .int .i64 mk
              | 6 => v = .string (ofL s)
              | 7 => v = .int .i64 a
              | 8 => v = .int .i64 e
              | 9 => v = .string (ofL t)
              | 10 => v = .tuple #[.string (ofL B), .int .i64 0]
              | 11 => v = .tuple #[.string (ofL B), .int .i64 0]
              | 12 => v = .string (ofL B)
              | 13 => v = .int .i64 0
              | 14 => v = .string (ofL B)
              | 15 => v = .int .i64 0
              | _ => True) (cs_inj (by decide)) (by decide) (by kernel_rfl) (by kernel_rfl) (by kernel_rfl) (by kernel_rfl) ((Ext.rfl' wr).dr) (fun bs W1 W2 h e => h.tr e) ?_ ?_ ?_
            · intro bs i v W1 W2 e1 e2 h
              match i, h with
              | 0, h => exact h
              | 1, h => exact h
              | 2, h => exact h
              | 3, h => exact h
              | 4, h => exact h
              | 5, h => exact h
              | 6, h => exact h
              | 7, h => exact h
              | 8, h => exact h
              | 9, h => exact h
              | 10, h => exact h
              | 11, h => exact h
              | 12, h => exact h
              | 13, h => exact h
              | 14, h => exact h
              | 15, h => exact h
              | (i + 16), h => exact h
            · intro HF
              refine localsQ_ord (by decide) (fun bs u W hbs hW hno hd => ?_) ?_
              · refine opLeaves_ev HF rfl fun ev zc zg zf zt => ?_
                have t0 : ev (.tmp 0) = .int .i64 gen := zt 0
                clear zt
                exact ev_val (v := .int .i64 gen) (by go_simp) rfl
              refine localsQ_ord (by decide) (fun bs u W hbs hW hno hd => ?_) ?_
              · refine opLeaves_ev HF rfl fun ev zc zg zf zt => ?_
                have t1 : ev (.tmp 1) = .int .i64 ix := zt 1
                clear zt
                exact ev_val (v := .int .i64 ix) (by go_simp) rfl
              refine localsQ_ord (by decide) (fun bs u W hbs hW hno hd => ?_) ?_
              · refine opLeaves_ev HF rfl fun ev zc zg zf zt => ?_
                have t13 : ev (.tmp 13) = .slice A (j + 1) c := zt 13
                clear zt
                exact ev_val (v := .slice A (j + 1) c) (by go_simp) rfl
              refine localsQ_ord (by decide) (fun bs u W hbs hW hno hd => ?_) ?_
              · refine opLeaves_ev HF rfl fun ev zc zg zf zt => ?_
                have t85 : ev (.tmp 85) = u 2 := zt 85
                clear zt
                have h2 : u 2 = _ := hd 2 (by kernel_rfl)
                exact ev_val (v := .int .i64 ((j + 1 : Nat) : Int)) (by go_simp) rfl
              refine localsQ_ord (by decide) (fun bs u W hbs hW hno hd => ?_) ?_
              · refine opLeaves_ev HF rfl fun ev zc zg zf zt => ?_
                have t84 : ev (.tmp 84) = u 1 := zt 84
                have t86 : ev (.tmp 86) = u 3 := zt 86
                clear zt
                have h1 : u 1 = _ := hd 1 (by kernel_rfl)
                have h3 : u 3 = _ := hd 3 (by kernel_rfl)
                have hw4 : IntKind.i64.wrap ((ix : Int) + (j + 1 : Nat)) = (ix : Int) + (j + 1 : Nat) := IntWalk.i64_in _ (by omega)
                have hw5 : IntKind.i64.wrap ((ix : Int) + ((j : Int) + 1)) = (ix : Int) + (j + 1 : Nat) := by rw [show (ix : Int) + ((j : Int) + 1) = (ix : Int) + (j + 1 : Nat) by omega]; exact hw4
                exact ev_val (v := .int .i64 ((ix : Int) + (j + 1 : Nat))) (by go_simp) rfl
              refine localsQ_ord (by decide) (fun bs u W hbs hW hno hd => ?_) ?_
              · refine opLeaves_ev HF rfl fun ev zc zg zf zt => ?_
                have t83 : ev (.tmp 83) = u 0 := zt 83
                have t87 : ev (.tmp 87) = u 4 := zt 87
                clear zt
                have h0 : u 0 = _ := hd 0 (by kernel_rfl)
                have h4 : u 4 = _ := hd 4 (by kernel_rfl)
                exact ev_call (f := 33) (args := #[.int .i64 gen, .int .i64 ((ix : Int) + (j + 1 : Nat)), .bool false]) (by go_simp) ((cM.out W).mono (by rintro e9 W9 ⟨rfl, h9⟩; exact ⟨_, rfl, h9, rfl⟩))
              refine localsQ_ord (by decide) (fun bs u W hbs hW hno hd => ?_) ?_
              · refine opLeaves_ev HF rfl fun ev zc zg zf zt => ?_
                have t3 : ev (.tmp 3) = .string (ofL s) := zt 3
                clear zt
                exact ev_val (v := .string (ofL s)) (by go_simp) rfl
              refine localsQ_ord (by decide) (fun bs u W hbs hW hno hd => ?_) ?_
              · refine opLeaves_ev HF rfl fun ev zc zg zf zt => ?_
                have t10 : ev (.tmp 10) = .int .i64 a := zt 10
                clear zt
                exact ev_val (v := .int .i64 a) (by go_simp) rfl
              refine localsQ_ord (by decide) (fun bs u W hbs hW hno hd => ?_) ?_
              · refine opLeaves_ev HF rfl fun ev zc zg zf zt => ?_
                have t14 : ev (.tmp 14) = .int .i64 e := zt 14
                clear zt
                exact ev_val (v := .int .i64 e) (by go_simp) rfl
              refine localsQ_ord (by decide) (fun bs u W hbs hW hno hd => ?_) ?_
              · refine opLeaves_ev HF rfl fun ev zc zg zf zt => ?_
                have t89 : ev (.tmp 89) = u 6 := zt 89
                have t90 : ev (.tmp 90) = u 7 := zt 90
                have t91 : ev (.tmp 91) = u 8 := zt 91
                clear zt
                have h6 : u 6 = _ := hd 6 (by kernel_rfl)
                have h7 : u 7 = _ := hd 7 (by kernel_rfl)
                have h8 : u 8 = _ := hd 8 (by kernel_rfl)
                have x9 := HX.out
                have y9 : a ≤ e := Nat.le_of_lt HAE.out
                have z9 := HEL.out
                exact ev_val (v := .string (ofL t)) (by go_simp) rfl
              refine localsQ_ord (by decide) (fun bs u W hbs hW hno hd => ?_) ?_
              · refine opLeaves_ev HF rfl fun ev zc zg zf zt => ?_
                have t88 : ev (.tmp 88) = u 5 := zt 88
                have t92 : ev (.tmp 92) = u 9 := zt 92
                clear zt
                have h5 : u 5 = _ := hd 5 (by kernel_rfl)
                have h9 : u 9 = _ := hd 9 (by kernel_rfl)
                exact ev_call (f := 79) (args := #[.int .i64 mk, .int .i64 0, .string (ofL t)]) (by go_simp) ((cP.out W).mono (by rintro e9 W9 ⟨rfl, h9⟩; exact ⟨_, rfl, h9, rfl⟩))
              refine localsQ_ord (by decide) (fun bs u W hbs hW hno hd => ?_) ?_
              · refine opLeaves_ev HF rfl fun ev zc zg zf zt => ?_
                have t93 : ev (.tmp 93) = u 10 := zt 93
                clear zt
                have h10 : u 10 = _ := hd 10 (by kernel_rfl)
                exact ev_val (v := .tuple #[.string (ofL B), .int .i64 0]) (by go_simp) rfl
              refine localsQ_ord (by decide) (fun bs u W hbs hW hno hd => ?_) ?_
              · refine opLeaves_ev HF rfl fun ev zc zg zf zt => ?_
                have t82 : ev (.tmp 82) = u 11 := zt 82
                clear zt
                have h11 : u 11 = _ := hd 11 (by kernel_rfl)
                exact ev_val (v := .string (ofL B)) (by go_simp) rfl
              refine localsQ_ord (by decide) (fun bs u W hbs hW hno hd => ?_) ?_
              · refine opLeaves_ev HF rfl fun ev zc zg zf zt => ?_
                have t82 : ev (.tmp 82) = u 11 := zt 82
                clear zt
                have h11 : u 11 = _ := hd 11 (by kernel_rfl)
                exact ev_val (v := .int .i64 0) (by go_simp) rfl
              refine localsQ_ord (by decide) (fun bs u W hbs hW hno hd => ?_) ?_
              · refine opLeaves_ev HF rfl fun ev zc zg zf zt => ?_
                have t94 : ev (.tmp 94) = u 12 := zt 94
                clear zt
                have h12 : u 12 = _ := hd 12 (by kernel_rfl)
                exact ev_val (v := .string (ofL B)) (by go_simp) rfl
              refine localsQ_ord (by decide) (fun bs u W hbs hW hno hd => ?_) localsQ_nil
              · refine opLeaves_ev HF rfl fun ev zc zg zf zt => ?_
                have t95 : ev (.tmp 95) = u 13 := zt 95
                clear zt
                have h13 : u 13 = _ := hd 13 (by kernel_rfl)
                exact ev_val (v := .int .i64 0) (by go_simp) rfl
            · intro u9 W9 hW9 hV
              have h14 : u9 14 = _ := hV 14 (by decide)
              have h15 : u9 15 = _ := hV 15 (by decide)
              clear hV cP cM
              go_simp
              have O9 := own_ext hown (fun i _ hi => hW9.block i hi)
              have E9 := hE.tr hW9
              clear hE hown hW9
              go_wp2_with (at_builtin; refine wpl_app Tryd.elemStr rfl _ _ rfl O9 1 rfl rfl rfl (by intro u hu; simp at hu; rw [hu]; rfl) (by omega) (by omega) E9.size ?_; intro v5 w5 O5 hg5; have F5 := E9.own hg5 O9 (Nat.le_refl _); clear O9 hg5 E9)
              go_roundw
              case rel => exact ⟨j + 1, e, HLT.out, rfl, HEN.out.symm, F5, own_eq O5 hFk.out rfl⟩
              case measure => have := HAE.out; have := HEL.out; simp [intOf]; omega
        · have hjn : j + 1 = n := by omega
          have haL : a = L := by have := HNL.out j; omega
          have HT := Kp.mk (show F.take (j + 1) = F from List.take_of_length_le (by rw [HFL.out]; omega))
          have HAL := Kp.mk haL
          have hdl : decide ((a : Int) < (L : Int)) = false := by simp; omega
          have hnl : L ≤ a := by omega
          rw [HT.out, hjn] at hown
          rw [hjn]
          clear HT haL ha hlt hjn hj
          go_wp2
          go_ret
          exact ⟨_, rfl, own_eq hown rfl HFL.out.symm, hE⟩
  · have hlt : decide ((102 : Int) < (L : Int)) = false := by simp; omega
    have hif : (L : Int) = (f : Int) := by have := HF.out; omega
    have HIF := Kp.mk hif
    clear h102 hif
    go_upto_region 7 with fail
    rw [HIF.out]
    clear HIF
    clear hlt
    refine wp_region_stageE [] (fun bs W => Ext w W) (fun bs i v W => match i with
      | 0 => v = .int .i64 gen
      | 1 => v = .int .i64 ix
      | 2 => v = .int .i64 m1
      | 3 => v = .int .i64 kd
      | 4 => v = .string (ofL s)
      | 5 => v = .int .i64 L
      | 6 => v = .string (ofL (leN 4 L))
      | 7 => v = .string (ofL s)
      | 8 => v = .string (ofL X)
      | 9 => v = .string (ofL (X.take 4))
      | 10 => v = .string (ofL (leN 4 L ++ X.take 4))
      | 11 => v = .string (ofL s)
      | 12 => v = .int .i64 f
      | 13 => v = .string (ofL (s.take f))
      | 14 => v = .string (ofL H)
      | 15 => v = .tuple #[.string (ofL B0), .int .i64 0]
      | 16 => v = .tuple #[.string (ofL B0), .int .i64 0]
      | 17 => v = .string (ofL B0)
      | 18 => v = .int .i64 0
      | 19 => v = .string (ofL B0)
      | 20 => v = .int .i64 0
      | _ => True) (cs_inj (by decide)) (by decide) (by kernel_rfl) (by kernel_rfl) (by kernel_rfl) (by kernel_rfl) ((Ext.rfl' w).dr) (fun bs W1 W2 h e => h.tr e) ?_ ?_ ?_
    · intro bs i v W1 W2 e1 e2 h
      match i, h with
      | 0, h => exact h
      | 1, h => exact h
      | 2, h => exact h
      | 3, h => exact h
      | 4, h => exact h
      | 5, h => exact h
      | 6, h => exact h
      | 7, h => exact h
      | 8, h => exact h
      | 9, h => exact h
      | 10, h => exact h
      | 11, h => exact h
      | 12, h => exact h
      | 13, h => exact h
      | 14, h => exact h
      | 15, h => exact h
      | 16, h => exact h
      | 17, h => exact h
      | 18, h => exact h
      | 19, h => exact h
      | 20, h => exact h
      | (i + 21), h => exact h
    · intro HF
      refine localsQ_ord (by decide) (fun bs u W hbs hW hno hd => ?_) ?_
      · refine opLeaves_ev HF rfl fun ev zc zg zf zt => ?_
        have t0 : ev (.tmp 0) = .int .i64 gen := zt 0
        clear zt
        exact ev_val (v := .int .i64 gen) (by go_simp) rfl
      refine localsQ_ord (by decide) (fun bs u W hbs hW hno hd => ?_) ?_
      · refine opLeaves_ev HF rfl fun ev zc zg zf zt => ?_
        have t1 : ev (.tmp 1) = .int .i64 ix := zt 1
        clear zt
        exact ev_val (v := .int .i64 ix) (by go_simp) rfl
      refine localsQ_ord (by decide) (fun bs u W hbs hW hno hd => ?_) ?_
      · refine opLeaves_ev HF rfl fun ev zc zg zf zt => ?_
        have t50 : ev (.tmp 50) = u 0 := zt 50
        have t51 : ev (.tmp 51) = u 1 := zt 51
        clear zt
        have h0 : u 0 = _ := hd 0 (by kernel_rfl)
        have h1 : u 1 = _ := hd 1 (by kernel_rfl)
        exact ev_call (f := 33) (args := #[.int .i64 gen, .int .i64 ix, .bool true]) (by go_simp) ((cMr.out W).mono (by rintro e9 W9 ⟨rfl, h9⟩; exact ⟨_, rfl, h9, rfl⟩))
      refine localsQ_ord (by decide) (fun bs u W hbs hW hno hd => ?_) ?_
      · refine opLeaves_ev HF rfl fun ev zc zg zf zt => ?_
        have t2 : ev (.tmp 2) = .int .i64 kd := zt 2
        clear zt
        exact ev_val (v := .int .i64 kd) (by go_simp) rfl
      refine localsQ_ord (by decide) (fun bs u W hbs hW hno hd => ?_) ?_
      · refine opLeaves_ev HF rfl fun ev zc zg zf zt => ?_
        have t3 : ev (.tmp 3) = .string (ofL s) := zt 3
        clear zt
        exact ev_val (v := .string (ofL s)) (by go_simp) rfl
      refine localsQ_ord (by decide) (fun bs u W hbs hW hno hd => ?_) ?_
      · refine opLeaves_ev HF rfl fun ev zc zg zf zt => ?_
        have t54 : ev (.tmp 54) = u 4 := zt 54
        clear zt
        have h4 : u 4 = _ := hd 4 (by kernel_rfl)
        exact ev_val (v := .int .i64 L) (by go_simp) rfl
      refine localsQ_ord (by decide) (fun bs u W hbs hW hno hd => ?_) ?_
      · refine opLeaves_ev HF rfl fun ev zc zg zf zt => ?_
        have t55 : ev (.tmp 55) = u 5 := zt 55
        clear zt
        have h5 : u 5 = _ := hd 5 (by kernel_rfl)
        exact ev_call (f := 80) (args := #[.int .i64 L]) (by go_simp) ((cN4.out W).mono (by rintro e9 W9 ⟨rfl, h9⟩; exact ⟨_, rfl, h9, rfl⟩))
      refine localsQ_ord (by decide) (fun bs u W hbs hW hno hd => ?_) ?_
      · refine opLeaves_ev HF rfl fun ev zc zg zf zt => ?_
        have t3 : ev (.tmp 3) = .string (ofL s) := zt 3
        clear zt
        exact ev_val (v := .string (ofL s)) (by go_simp) rfl
      refine localsQ_ord (by decide) (fun bs u W hbs hW hno hd => ?_) ?_
      · refine opLeaves_ev HF rfl fun ev zc zg zf zt => ?_
        have t57 : ev (.tmp 57) = u 7 := zt 57
        clear zt
        have h7 : u 7 = _ := hd 7 (by kernel_rfl)
        exact ev_call (f := 81) (args := #[.string (ofL s)]) (by go_simp) ((cS.out W).mono (by rintro e9 W9 ⟨rfl, h9⟩; exact ⟨_, rfl, h9, rfl⟩))
      refine localsQ_ord (by decide) (fun bs u W hbs hW hno hd => ?_) ?_
      · refine opLeaves_ev HF rfl fun ev zc zg zf zt => ?_
        have t58 : ev (.tmp 58) = u 8 := zt 58
        clear zt
        have h8 : u 8 = _ := hd 8 (by kernel_rfl)
        have x4 : (ofL X).extract 0 4 = ofL (X.take 4) := by rw [extract_to, toL_ofL]
        have z4 : (ofL X).size = 32 := by rw [size_ofL]; exact HXL.out
        exact ev_val (v := .string (ofL (X.take 4))) (by go_simp) rfl
      refine localsQ_ord (by decide) (fun bs u W hbs hW hno hd => ?_) ?_
      · refine opLeaves_ev HF rfl fun ev zc zg zf zt => ?_
        have t56 : ev (.tmp 56) = u 6 := zt 56
        have t59 : ev (.tmp 59) = u 9 := zt 59
        clear zt
        have h6 : u 6 = _ := hd 6 (by kernel_rfl)
        have h9 : u 9 = _ := hd 9 (by kernel_rfl)
        have e10 := ofL_append (leN 4 L) (X.take 4)
        have b10 : (leN 4 L).length + min 4 X.length ≤ 9223372036854775807 := by rw [length_leN]; omega
        exact ev_val (v := .string (ofL (leN 4 L ++ X.take 4))) (by go_simp) rfl
      refine localsQ_ord (by decide) (fun bs u W hbs hW hno hd => ?_) ?_
      · refine opLeaves_ev HF rfl fun ev zc zg zf zt => ?_
        have t3 : ev (.tmp 3) = .string (ofL s) := zt 3
        clear zt
        exact ev_val (v := .string (ofL s)) (by go_simp) rfl
      refine localsQ_ord (by decide) (fun bs u W hbs hW hno hd => ?_) ?_
      · refine opLeaves_ev HF rfl fun ev zc zg zf zt => ?_
        have t10 : ev (.tmp 10) = .int .i64 f := zt 10
        clear zt
        exact ev_val (v := .int .i64 f) (by go_simp) rfl
      refine localsQ_ord (by decide) (fun bs u W hbs hW hno hd => ?_) ?_
      · refine opLeaves_ev HF rfl fun ev zc zg zf zt => ?_
        have t61 : ev (.tmp 61) = u 11 := zt 61
        have t62 : ev (.tmp 62) = u 12 := zt 62
        clear zt
        have h11 : u 11 = _ := hd 11 (by kernel_rfl)
        have h12 : u 12 = _ := hd 12 (by kernel_rfl)
        have x13 : (ofL s).extract 0 f = ofL (s.take f) := by rw [extract_to, toL_ofL]
        exact ev_val (v := .string (ofL (s.take f))) (by go_simp) rfl
      refine localsQ_ord (by decide) (fun bs u W hbs hW hno hd => ?_) ?_
      · refine opLeaves_ev HF rfl fun ev zc zg zf zt => ?_
        have t60 : ev (.tmp 60) = u 10 := zt 60
        have t63 : ev (.tmp 63) = u 13 := zt 63
        clear zt
        have h10 : u 10 = _ := hd 10 (by kernel_rfl)
        have h13 : u 13 = _ := hd 13 (by kernel_rfl)
        have e14 := HCAT.out
        have b14 : (leN 4 L).length + min 4 X.length + min f s.length ≤ 9223372036854775807 := by rw [length_leN]; omega
        exact ev_val (v := .string (ofL H)) (by go_simp) rfl
      refine localsQ_ord (by decide) (fun bs u W hbs hW hno hd => ?_) ?_
      · refine opLeaves_ev HF rfl fun ev zc zg zf zt => ?_
        have t52 : ev (.tmp 52) = u 2 := zt 52
        have t53 : ev (.tmp 53) = u 3 := zt 53
        have t64 : ev (.tmp 64) = u 14 := zt 64
        clear zt
        have h2 : u 2 = _ := hd 2 (by kernel_rfl)
        have h3 : u 3 = _ := hd 3 (by kernel_rfl)
        have h14 : u 14 = _ := hd 14 (by kernel_rfl)
        exact ev_call (f := 79) (args := #[.int .i64 m1, .int .i64 kd, .string (ofL H)]) (by go_simp) ((cP0.out W).mono (by rintro e9 W9 ⟨rfl, h9⟩; exact ⟨_, rfl, h9, rfl⟩))
      refine localsQ_ord (by decide) (fun bs u W hbs hW hno hd => ?_) ?_
      · refine opLeaves_ev HF rfl fun ev zc zg zf zt => ?_
        have t65 : ev (.tmp 65) = u 15 := zt 65
        clear zt
        have h15 : u 15 = _ := hd 15 (by kernel_rfl)
        exact ev_val (v := .tuple #[.string (ofL B0), .int .i64 0]) (by go_simp) rfl
      refine localsQ_ord (by decide) (fun bs u W hbs hW hno hd => ?_) ?_
      · refine opLeaves_ev HF rfl fun ev zc zg zf zt => ?_
        have t49 : ev (.tmp 49) = u 16 := zt 49
        clear zt
        have h16 : u 16 = _ := hd 16 (by kernel_rfl)
        exact ev_val (v := .string (ofL B0)) (by go_simp) rfl
      refine localsQ_ord (by decide) (fun bs u W hbs hW hno hd => ?_) ?_
      · refine opLeaves_ev HF rfl fun ev zc zg zf zt => ?_
        have t49 : ev (.tmp 49) = u 16 := zt 49
        clear zt
        have h16 : u 16 = _ := hd 16 (by kernel_rfl)
        exact ev_val (v := .int .i64 0) (by go_simp) rfl
      refine localsQ_ord (by decide) (fun bs u W hbs hW hno hd => ?_) ?_
      · refine opLeaves_ev HF rfl fun ev zc zg zf zt => ?_
        have t66 : ev (.tmp 66) = u 17 := zt 66
        clear zt
        have h17 : u 17 = _ := hd 17 (by kernel_rfl)
        exact ev_val (v := .string (ofL B0)) (by go_simp) rfl
      refine localsQ_ord (by decide) (fun bs u W hbs hW hno hd => ?_) localsQ_nil
      · refine opLeaves_ev HF rfl fun ev zc zg zf zt => ?_
        have t67 : ev (.tmp 67) = u 18 := zt 67
        clear zt
        have h18 : u 18 = _ := hd 18 (by kernel_rfl)
        exact ev_val (v := .int .i64 0) (by go_simp) rfl
    · intro u7 W7 hW7 hV
      have h19 : u7 19 = _ := hV 19 (by decide)
      have h20 : u7 20 = _ := hV 20 (by decide)
      clear hV cS cN4 cMr cP0
      go_simp
      go_upto_region 9 with fail
      obtain ⟨V8, hV8, O8, E8⟩ : ∃ V, W7.alloc (.cells #[.string (ofL B0)] 9) = V ∧ V.ownsRow w.heap.size 9 1 (.slice (some ⟨W7.heap.size, 0, none⟩) 1 1) 1 ((F.take 1).map Str) ∧ Ext w V := by
        refine ⟨_, rfl, own_eq (World.ownsRow_lit W7 #[.string (ofL B0)] 1 hW7.size (by decide) rfl) ?_ rfl, hW7.al _⟩
        have := HF0.out
        cases F with
        | nil => cases this
        | cons b r => rw [Option.some.inj this]; rfl
      rw [hV8]
      clear hV8 hW7 h19 h20 HCAT HXL HF0
      go_loopw [13, 10] (fun o i wr => ∃ j a : Nat, j + 1 ≤ n ∧ i = .int .i64 a ∧ a = min (102 + 110 * j) L ∧ Ext w wr ∧ wr.ownsRow w.heap.size 9 1 o (j + 1) ((F.take (j + 1)).map Str)) (fun _ i _ => L - (intOf i).toNat)
      case atStart => exact ⟨0, f, by omega, rfl, by have := HF.out; omega, E8, O8⟩
      case round =>
        clear E8 O8
        obtain ⟨j, a, hj, rfl, ha, hE, hown⟩ := hrel
        obtain ⟨A, c, hv⟩ := own_slice hown
        subst hv
        by_cases hlt : j + 1 < n
        · have haL : a < L := by have := (HNL.out j).2 hlt; omega
          have haj : a = 102 + 110 * j := by have := (HNL.out j).2 hlt; omega
          have hdl : decide ((a : Int) < (L : Int)) = true := by simp; omega
          have HA := Kp.mk ha
          clear ha
          obtain ⟨t, ht⟩ : ∃ t, (s.drop a).take 110 = t := ⟨_, rfl⟩
          obtain ⟨mk, hmk⟩ : ∃ mk, markN gen ((ix : Int) + (j + 1 : Nat)) false = mk := ⟨_, rfl⟩
          have hFn : F[j + 1]? = some (frBytes mk.toNat 0 t) := by
            rw [← HFE.out, framesE_next (k := j) (by rw [HL.out]; omega), hmk, ← ht, haj]
          obtain ⟨B, hB⟩ : ∃ B, frBytes mk.toNat 0 t = B := ⟨_, rfl⟩
          rw [hB] at hFn
          have hmb := markN_lt gen ((ix : Int) + (j + 1 : Nat)) false
          have hm0 : mk ≠ 0 := by
            rw [← hmk]
            intro h
            have := markN_zero.1 h
            omega
          rw [hmk] at hmb
          have htl : t.length ≤ 110 := by rw [← ht, List.length_take]; omega
          have hp : frPut ⟨mk, 0, t⟩ = (B, 0) := by
            rw [frPut_ok (by dsimp only; omega) (by dsimp only; omega), ← hB]
            rfl
          have cP := Kp.mk (show ∀ W : World, Calls Tryd.prog 79 #[.int .i64 mk, .int .i64 0, .string (ofL t)] W fun e w' => e = .returned (.tuple #[.string (ofL B), .int .i64 0]) ∧ Ext W w' from fun W => by
            have q := rfput ⟨mk, 0, t⟩ W hmb.2
            rw [hp] at q
            exact q)
          have cM := Kp.mk (show ∀ W : World, Calls Tryd.prog 33 #[.int .i64 gen, .int .i64 ((ix : Int) + (j + 1 : Nat)), .bool false] W fun e w' => e = .returned (.int .i64 mk) ∧ Ext W w' from fun W => (rmk_any gen ((ix : Int) + (j + 1 : Nat)) false W).mono fun e w' ⟨h1, h2⟩ => ⟨by rw [h1, hmk], by rw [h2]; exact Ext.rfl' W⟩)
          have hFk := Kp.mk (show (F.take (j + 1)).map Str ++ [.string (ofL B)] = (F.take (j + 1 + 1)).map Str by
            obtain ⟨h1, h2⟩ := List.getElem?_eq_some_iff.1 hFn
            rw [List.take_succ_eq_append_getElem h1, List.map_append, h2]
            rfl)
          have hex := Kp.mk (show ∀ e : Nat, e ≤ L → (e = a + 110 ∨ e = L ∧ L ≤ a + 110) → (ofL s).extract a e = ofL t from fun e he h => by
            rw [extract_mid, toL_ofL, ← ht]
            rcases h with rfl | ⟨rfl, h⟩
            · rw [show a + 110 - a = 110 by omega]
            · rw [List.take_of_length_le (by rw [List.length_drop, HL.out]; omega), List.take_of_length_le (by rw [List.length_drop, HL.out]; omega)])
          have HLT := Kp.mk hlt
          clear hFn hB hmb hm0 hp htl ht hmk hlt
          by_cases h110 : a + 110 < L
          · have hgt : decide ((110 : Int) < (L : Int) - (a : Int)) = true := by simp; omega
            have hwr : IntKind.i64.wrap ((L : Int) - a) = (L : Int) - a := IntWalk.i64_in _ (by omega)
            have hwr2 : IntKind.i64.wrap ((a : Int) + 110) = (a : Int) + 110 := IntWalk.i64_in _ (by omega)
            have heL : a + 110 ≤ L := by omega
            have hx := hex.out (a + 110) heL (.inl rfl)
            have hen := HA.out
            replace hen : min (102 + 110 * (j + 1)) L = a + 110 := by omega
            have he1 : (a : Int) + 110 = ((a + 110 : Nat) : Int) := by omega
            obtain ⟨e, he⟩ : ∃ e, a + 110 = e := ⟨_, rfl⟩
            rw [he] at heL hx hen he1
            have HAE := Kp.mk (show a < e from by omega)
            have HEN := Kp.mk hen; have HE1 := Kp.mk he1; have HX := Kp.mk hx; have HEL := Kp.mk heL
            clear hex h110 he haj hen he1 hx heL
            go_upto_region 13 with fail
            rw [HE1.out]
            clear hdl hgt HE1
            refine wp_region_stageE [] (fun bs W => Ext wr W) (fun bs i v W => match i with
              | 0 => v = .int .i64 gen
              | 1 => v = .int .i64 ix
              | 2 => v = .slice A (j + 1) c
              | 3 => v = .int .i64 ((j + 1 : Nat) : Int)
              | 4 => v = .int .i64 ((ix : Int) + (j + 1 : Nat))
              | 5 => v = .int .i64 mk
              | 6 => v = .string (ofL s)
              | 7 => v = .int .i64 a
              | 8 => v = .int .i64 e
              | 9 => v = .string (ofL t)
              | 10 => v = .tuple #[.string (ofL B), .int .i64 0]
              | 11 => v = .tuple #[.string (ofL B), .int .i64 0]
              | 12 => v = .string (ofL B)
              | 13 => v = .int .i64 0
              | 14 => v = .string (ofL B)
              | 15 => v = .int .i64 0
              | _ => True) (cs_inj (by decide)) (by decide) (by kernel_rfl) (by kernel_rfl) (by kernel_rfl) (by kernel_rfl) ((Ext.rfl' wr).dr) (fun bs W1 W2 h e => h.tr e) ?_ ?_ ?_
            · intro bs i v W1 W2 e1 e2 h
              match i, h with
              | 0, h => exact h
              | 1, h => exact h
              | 2, h => exact h
              | 3, h => exact h
              | 4, h => exact h
              | 5, h => exact h
              | 6, h => exact h
              | 7, h => exact h
              | 8, h => exact h
              | 9, h => exact h
              | 10, h => exact h
              | 11, h => exact h
              | 12, h => exact h
              | 13, h => exact h
              | 14, h => exact h
              | 15, h => exact h
              | (i + 16), h => exact h
            · intro HF
              refine localsQ_ord (by decide) (fun bs u W hbs hW hno hd => ?_) ?_
              · refine opLeaves_ev HF rfl fun ev zc zg zf zt => ?_
                have t0 : ev (.tmp 0) = .int .i64 gen := zt 0
                clear zt
                exact ev_val (v := .int .i64 gen) (by go_simp) rfl
              refine localsQ_ord (by decide) (fun bs u W hbs hW hno hd => ?_) ?_
              · refine opLeaves_ev HF rfl fun ev zc zg zf zt => ?_
                have t1 : ev (.tmp 1) = .int .i64 ix := zt 1
                clear zt
                exact ev_val (v := .int .i64 ix) (by go_simp) rfl
              refine localsQ_ord (by decide) (fun bs u W hbs hW hno hd => ?_) ?_
              · refine opLeaves_ev HF rfl fun ev zc zg zf zt => ?_
                have t13 : ev (.tmp 13) = .slice A (j + 1) c := zt 13
                clear zt
                exact ev_val (v := .slice A (j + 1) c) (by go_simp) rfl
              refine localsQ_ord (by decide) (fun bs u W hbs hW hno hd => ?_) ?_
              · refine opLeaves_ev HF rfl fun ev zc zg zf zt => ?_
                have t85 : ev (.tmp 85) = u 2 := zt 85
                clear zt
                have h2 : u 2 = _ := hd 2 (by kernel_rfl)
                exact ev_val (v := .int .i64 ((j + 1 : Nat) : Int)) (by go_simp) rfl
              refine localsQ_ord (by decide) (fun bs u W hbs hW hno hd => ?_) ?_
              · refine opLeaves_ev HF rfl fun ev zc zg zf zt => ?_
                have t84 : ev (.tmp 84) = u 1 := zt 84
                have t86 : ev (.tmp 86) = u 3 := zt 86
                clear zt
                have h1 : u 1 = _ := hd 1 (by kernel_rfl)
                have h3 : u 3 = _ := hd 3 (by kernel_rfl)
                have hw4 : IntKind.i64.wrap ((ix : Int) + (j + 1 : Nat)) = (ix : Int) + (j + 1 : Nat) := IntWalk.i64_in _ (by omega)
                have hw5 : IntKind.i64.wrap ((ix : Int) + ((j : Int) + 1)) = (ix : Int) + (j + 1 : Nat) := by rw [show (ix : Int) + ((j : Int) + 1) = (ix : Int) + (j + 1 : Nat) by omega]; exact hw4
                exact ev_val (v := .int .i64 ((ix : Int) + (j + 1 : Nat))) (by go_simp) rfl
              refine localsQ_ord (by decide) (fun bs u W hbs hW hno hd => ?_) ?_
              · refine opLeaves_ev HF rfl fun ev zc zg zf zt => ?_
                have t83 : ev (.tmp 83) = u 0 := zt 83
                have t87 : ev (.tmp 87) = u 4 := zt 87
                clear zt
                have h0 : u 0 = _ := hd 0 (by kernel_rfl)
                have h4 : u 4 = _ := hd 4 (by kernel_rfl)
                exact ev_call (f := 33) (args := #[.int .i64 gen, .int .i64 ((ix : Int) + (j + 1 : Nat)), .bool false]) (by go_simp) ((cM.out W).mono (by rintro e9 W9 ⟨rfl, h9⟩; exact ⟨_, rfl, h9, rfl⟩))
              refine localsQ_ord (by decide) (fun bs u W hbs hW hno hd => ?_) ?_
              · refine opLeaves_ev HF rfl fun ev zc zg zf zt => ?_
                have t3 : ev (.tmp 3) = .string (ofL s) := zt 3
                clear zt
                exact ev_val (v := .string (ofL s)) (by go_simp) rfl
              refine localsQ_ord (by decide) (fun bs u W hbs hW hno hd => ?_) ?_
              · refine opLeaves_ev HF rfl fun ev zc zg zf zt => ?_
                have t10 : ev (.tmp 10) = .int .i64 a := zt 10
                clear zt
                exact ev_val (v := .int .i64 a) (by go_simp) rfl
              refine localsQ_ord (by decide) (fun bs u W hbs hW hno hd => ?_) ?_
              · refine opLeaves_ev HF rfl fun ev zc zg zf zt => ?_
                have t14 : ev (.tmp 14) = .int .i64 e := zt 14
                clear zt
                exact ev_val (v := .int .i64 e) (by go_simp) rfl
              refine localsQ_ord (by decide) (fun bs u W hbs hW hno hd => ?_) ?_
              · refine opLeaves_ev HF rfl fun ev zc zg zf zt => ?_
                have t89 : ev (.tmp 89) = u 6 := zt 89
                have t90 : ev (.tmp 90) = u 7 := zt 90
                have t91 : ev (.tmp 91) = u 8 := zt 91
                clear zt
                have h6 : u 6 = _ := hd 6 (by kernel_rfl)
                have h7 : u 7 = _ := hd 7 (by kernel_rfl)
                have h8 : u 8 = _ := hd 8 (by kernel_rfl)
                have x9 := HX.out
                have y9 : a ≤ e := Nat.le_of_lt HAE.out
                have z9 := HEL.out
                exact ev_val (v := .string (ofL t)) (by go_simp) rfl
              refine localsQ_ord (by decide) (fun bs u W hbs hW hno hd => ?_) ?_
              · refine opLeaves_ev HF rfl fun ev zc zg zf zt => ?_
                have t88 : ev (.tmp 88) = u 5 := zt 88
                have t92 : ev (.tmp 92) = u 9 := zt 92
                clear zt
                have h5 : u 5 = _ := hd 5 (by kernel_rfl)
                have h9 : u 9 = _ := hd 9 (by kernel_rfl)
                exact ev_call (f := 79) (args := #[.int .i64 mk, .int .i64 0, .string (ofL t)]) (by go_simp) ((cP.out W).mono (by rintro e9 W9 ⟨rfl, h9⟩; exact ⟨_, rfl, h9, rfl⟩))
              refine localsQ_ord (by decide) (fun bs u W hbs hW hno hd => ?_) ?_
              · refine opLeaves_ev HF rfl fun ev zc zg zf zt => ?_
                have t93 : ev (.tmp 93) = u 10 := zt 93
                clear zt
                have h10 : u 10 = _ := hd 10 (by kernel_rfl)
                exact ev_val (v := .tuple #[.string (ofL B), .int .i64 0]) (by go_simp) rfl
              refine localsQ_ord (by decide) (fun bs u W hbs hW hno hd => ?_) ?_
              · refine opLeaves_ev HF rfl fun ev zc zg zf zt => ?_
                have t82 : ev (.tmp 82) = u 11 := zt 82
                clear zt
                have h11 : u 11 = _ := hd 11 (by kernel_rfl)
                exact ev_val (v := .string (ofL B)) (by go_simp) rfl
              refine localsQ_ord (by decide) (fun bs u W hbs hW hno hd => ?_) ?_
              · refine opLeaves_ev HF rfl fun ev zc zg zf zt => ?_
                have t82 : ev (.tmp 82) = u 11 := zt 82
                clear zt
                have h11 : u 11 = _ := hd 11 (by kernel_rfl)
                exact ev_val (v := .int .i64 0) (by go_simp) rfl
              refine localsQ_ord (by decide) (fun bs u W hbs hW hno hd => ?_) ?_
              · refine opLeaves_ev HF rfl fun ev zc zg zf zt => ?_
                have t94 : ev (.tmp 94) = u 12 := zt 94
                clear zt
                have h12 : u 12 = _ := hd 12 (by kernel_rfl)
                exact ev_val (v := .string (ofL B)) (by go_simp) rfl
              refine localsQ_ord (by decide) (fun bs u W hbs hW hno hd => ?_) localsQ_nil
              · refine opLeaves_ev HF rfl fun ev zc zg zf zt => ?_
                have t95 : ev (.tmp 95) = u 13 := zt 95
                clear zt
                have h13 : u 13 = _ := hd 13 (by kernel_rfl)
                exact ev_val (v := .int .i64 0) (by go_simp) rfl
            · intro u9 W9 hW9 hV
              have h14 : u9 14 = _ := hV 14 (by decide)
              have h15 : u9 15 = _ := hV 15 (by decide)
              clear hV cP cM
              go_simp
              have O9 := own_ext hown (fun i _ hi => hW9.block i hi)
              have E9 := hE.tr hW9
              clear hE hown hW9
              go_wp2_with (at_builtin; refine wpl_app Tryd.elemStr rfl _ _ rfl O9 1 rfl rfl rfl (by intro u hu; simp at hu; rw [hu]; rfl) (by omega) (by omega) E9.size ?_; intro v5 w5 O5 hg5; have F5 := E9.own hg5 O9 (Nat.le_refl _); clear O9 hg5 E9)
              go_roundw
              case rel => exact ⟨j + 1, e, HLT.out, rfl, HEN.out.symm, F5, own_eq O5 hFk.out rfl⟩
              case measure => have := HAE.out; have := HEL.out; simp [intOf]; omega
          · have hgt : decide ((110 : Int) < (L : Int) - (a : Int)) = false := by simp; omega
            have hwr : IntKind.i64.wrap ((L : Int) - a) = (L : Int) - a := IntWalk.i64_in _ (by omega)
            have hx := hex.out L (Nat.le_refl _) (.inr ⟨rfl, by omega⟩)
            have heL : L ≤ L := Nat.le_refl _
            have hen : min (102 + 110 * (j + 1)) L = L := by omega
            obtain ⟨e, he⟩ : ∃ e, L = e := ⟨_, rfl⟩
            have he1 : (L : Int) = (e : Int) := by omega
            have HAE := Kp.mk (show a < e from by omega)
            have HEN := Kp.mk (show min (102 + 110 * (j + 1)) L = e from by omega)
            have HX := Kp.mk (show (ofL s).extract a e = ofL t from by rw [← he]; exact hx)
            have HE1 := Kp.mk he1; have HEL := Kp.mk (show e ≤ L from by omega)
            clear hex h110 he haj hen he1 hx heL
            go_upto_region 13 with fail
            rw (occs := .pos [1]) [HE1.out]
            clear hdl hgt HE1
            refine wp_region_stageE [] (fun bs W => Ext wr W) (fun bs i v W => match i with
              | 0 => v = .int .i64 gen
              | 1 => v = .int .i64 ix
              | 2 => v = .slice A (j + 1) c
              | 3 => v = .int .i64 ((j + 1 : Nat) : Int)
              | 4 => v = .int .i64 ((ix : Int) + (j + 1 : Nat))
              | 5 => v = .int .i64 mk
              | 6 => v = .string (ofL s)
              | 7 => v = .int .i64 a
              | 8 => v = .int .i64 e
              | 9 => v = .string (ofL t)
              | 10 => v = .tuple #[.string (ofL B), .int .i64 0]
              | 11 => v = .tuple #[.string (ofL B), .int .i64 0]
              | 12 => v = .string (ofL B)
              | 13 => v = .int .i64 0
              | 14 => v = .string (ofL B)
              | 15 => v = .int .i64 0
              | _ => True) (cs_inj (by decide)) (by decide) (by kernel_rfl) (by kernel_rfl) (by kernel_rfl) (by kernel_rfl) ((Ext.rfl' wr).dr) (fun bs W1 W2 h e => h.tr e) ?_ ?_ ?_
            · intro bs i v W1 W2 e1 e2 h
              match i, h with
              | 0, h => exact h
              | 1, h => exact h
              | 2, h => exact h
              | 3, h => exact h
              | 4, h => exact h
              | 5, h => exact h
              | 6, h => exact h
              | 7, h => exact h
              | 8, h => exact h
              | 9, h => exact h
              | 10, h => exact h
              | 11, h => exact h
              | 12, h => exact h
              | 13, h => exact h
              | 14, h => exact h
              | 15, h => exact h
              | (i + 16), h => exact h
            · intro HF
              refine localsQ_ord (by decide) (fun bs u W hbs hW hno hd => ?_) ?_
              · refine opLeaves_ev HF rfl fun ev zc zg zf zt => ?_
                have t0 : ev (.tmp 0) = .int .i64 gen := zt 0
                clear zt
                exact ev_val (v := .int .i64 gen) (by go_simp) rfl
              refine localsQ_ord (by decide) (fun bs u W hbs hW hno hd => ?_) ?_
              · refine opLeaves_ev HF rfl fun ev zc zg zf zt => ?_
                have t1 : ev (.tmp 1) = .int .i64 ix := zt 1
                clear zt
                exact ev_val (v := .int .i64 ix) (by go_simp) rfl
              refine localsQ_ord (by decide) (fun bs u W hbs hW hno hd => ?_) ?_
              · refine opLeaves_ev HF rfl fun ev zc zg zf zt => ?_
                have t13 : ev (.tmp 13) = .slice A (j + 1) c := zt 13
                clear zt
                exact ev_val (v := .slice A (j + 1) c) (by go_simp) rfl
              refine localsQ_ord (by decide) (fun bs u W hbs hW hno hd => ?_) ?_
              · refine opLeaves_ev HF rfl fun ev zc zg zf zt => ?_
                have t85 : ev (.tmp 85) = u 2 := zt 85
                clear zt
                have h2 : u 2 = _ := hd 2 (by kernel_rfl)
                exact ev_val (v := .int .i64 ((j + 1 : Nat) : Int)) (by go_simp) rfl
              refine localsQ_ord (by decide) (fun bs u W hbs hW hno hd => ?_) ?_
              · refine opLeaves_ev HF rfl fun ev zc zg zf zt => ?_
                have t84 : ev (.tmp 84) = u 1 := zt 84
                have t86 : ev (.tmp 86) = u 3 := zt 86
                clear zt
                have h1 : u 1 = _ := hd 1 (by kernel_rfl)
                have h3 : u 3 = _ := hd 3 (by kernel_rfl)
                have hw4 : IntKind.i64.wrap ((ix : Int) + (j + 1 : Nat)) = (ix : Int) + (j + 1 : Nat) := IntWalk.i64_in _ (by omega)
                have hw5 : IntKind.i64.wrap ((ix : Int) + ((j : Int) + 1)) = (ix : Int) + (j + 1 : Nat) := by rw [show (ix : Int) + ((j : Int) + 1) = (ix : Int) + (j + 1 : Nat) by omega]; exact hw4
                exact ev_val (v := .int .i64 ((ix : Int) + (j + 1 : Nat))) (by go_simp) rfl
              refine localsQ_ord (by decide) (fun bs u W hbs hW hno hd => ?_) ?_
              · refine opLeaves_ev HF rfl fun ev zc zg zf zt => ?_
                have t83 : ev (.tmp 83) = u 0 := zt 83
                have t87 : ev (.tmp 87) = u 4 := zt 87
                clear zt
                have h0 : u 0 = _ := hd 0 (by kernel_rfl)
                have h4 : u 4 = _ := hd 4 (by kernel_rfl)
                exact ev_call (f := 33) (args := #[.int .i64 gen, .int .i64 ((ix : Int) + (j + 1 : Nat)), .bool false]) (by go_simp) ((cM.out W).mono (by rintro e9 W9 ⟨rfl, h9⟩; exact ⟨_, rfl, h9, rfl⟩))
              refine localsQ_ord (by decide) (fun bs u W hbs hW hno hd => ?_) ?_
              · refine opLeaves_ev HF rfl fun ev zc zg zf zt => ?_
                have t3 : ev (.tmp 3) = .string (ofL s) := zt 3
                clear zt
                exact ev_val (v := .string (ofL s)) (by go_simp) rfl
              refine localsQ_ord (by decide) (fun bs u W hbs hW hno hd => ?_) ?_
              · refine opLeaves_ev HF rfl fun ev zc zg zf zt => ?_
                have t10 : ev (.tmp 10) = .int .i64 a := zt 10
                clear zt
                exact ev_val (v := .int .i64 a) (by go_simp) rfl
              refine localsQ_ord (by decide) (fun bs u W hbs hW hno hd => ?_) ?_
              · refine opLeaves_ev HF rfl fun ev zc zg zf zt => ?_
                have t14 : ev (.tmp 14) = .int .i64 e := zt 14
                clear zt
                exact ev_val (v := .int .i64 e) (by go_simp) rfl
              refine localsQ_ord (by decide) (fun bs u W hbs hW hno hd => ?_) ?_
              · refine opLeaves_ev HF rfl fun ev zc zg zf zt => ?_
                have t89 : ev (.tmp 89) = u 6 := zt 89
                have t90 : ev (.tmp 90) = u 7 := zt 90
                have t91 : ev (.tmp 91) = u 8 := zt 91
                clear zt
                have h6 : u 6 = _ := hd 6 (by kernel_rfl)
                have h7 : u 7 = _ := hd 7 (by kernel_rfl)
                have h8 : u 8 = _ := hd 8 (by kernel_rfl)
                have x9 := HX.out
                have y9 : a ≤ e := Nat.le_of_lt HAE.out
                have z9 := HEL.out
                exact ev_val (v := .string (ofL t)) (by go_simp) rfl
              refine localsQ_ord (by decide) (fun bs u W hbs hW hno hd => ?_) ?_
              · refine opLeaves_ev HF rfl fun ev zc zg zf zt => ?_
                have t88 : ev (.tmp 88) = u 5 := zt 88
                have t92 : ev (.tmp 92) = u 9 := zt 92
                clear zt
                have h5 : u 5 = _ := hd 5 (by kernel_rfl)
                have h9 : u 9 = _ := hd 9 (by kernel_rfl)
                exact ev_call (f := 79) (args := #[.int .i64 mk, .int .i64 0, .string (ofL t)]) (by go_simp) ((cP.out W).mono (by rintro e9 W9 ⟨rfl, h9⟩; exact ⟨_, rfl, h9, rfl⟩))
              refine localsQ_ord (by decide) (fun bs u W hbs hW hno hd => ?_) ?_
              · refine opLeaves_ev HF rfl fun ev zc zg zf zt => ?_
                have t93 : ev (.tmp 93) = u 10 := zt 93
                clear zt
                have h10 : u 10 = _ := hd 10 (by kernel_rfl)
                exact ev_val (v := .tuple #[.string (ofL B), .int .i64 0]) (by go_simp) rfl
              refine localsQ_ord (by decide) (fun bs u W hbs hW hno hd => ?_) ?_
              · refine opLeaves_ev HF rfl fun ev zc zg zf zt => ?_
                have t82 : ev (.tmp 82) = u 11 := zt 82
                clear zt
                have h11 : u 11 = _ := hd 11 (by kernel_rfl)
                exact ev_val (v := .string (ofL B)) (by go_simp) rfl
              refine localsQ_ord (by decide) (fun bs u W hbs hW hno hd => ?_) ?_
              · refine opLeaves_ev HF rfl fun ev zc zg zf zt => ?_
                have t82 : ev (.tmp 82) = u 11 := zt 82
                clear zt
                have h11 : u 11 = _ := hd 11 (by kernel_rfl)
                exact ev_val (v := .int .i64 0) (by go_simp) rfl
              refine localsQ_ord (by decide) (fun bs u W hbs hW hno hd => ?_) ?_
              · refine opLeaves_ev HF rfl fun ev zc zg zf zt => ?_
                have t94 : ev (.tmp 94) = u 12 := zt 94
                clear zt
                have h12 : u 12 = _ := hd 12 (by kernel_rfl)
                exact ev_val (v := .string (ofL B)) (by go_simp) rfl
              refine localsQ_ord (by decide) (fun bs u W hbs hW hno hd => ?_) localsQ_nil
              · refine opLeaves_ev HF rfl fun ev zc zg zf zt => ?_
                have t95 : ev (.tmp 95) = u 13 := zt 95
                clear zt
                have h13 : u 13 = _ := hd 13 (by kernel_rfl)
                exact ev_val (v := .int .i64 0) (by go_simp) rfl
            · intro u9 W9 hW9 hV
              have h14 : u9 14 = _ := hV 14 (by decide)
              have h15 : u9 15 = _ := hV 15 (by decide)
              clear hV cP cM
              go_simp
              have O9 := own_ext hown (fun i _ hi => hW9.block i hi)
              have E9 := hE.tr hW9
              clear hE hown hW9
              go_wp2_with (at_builtin; refine wpl_app Tryd.elemStr rfl _ _ rfl O9 1 rfl rfl rfl (by intro u hu; simp at hu; rw [hu]; rfl) (by omega) (by omega) E9.size ?_; intro v5 w5 O5 hg5; have F5 := E9.own hg5 O9 (Nat.le_refl _); clear O9 hg5 E9)
              go_roundw
              case rel => exact ⟨j + 1, e, HLT.out, rfl, HEN.out.symm, F5, own_eq O5 hFk.out rfl⟩
              case measure => have := HAE.out; have := HEL.out; simp [intOf]; omega
        · have hjn : j + 1 = n := by omega
          have haL : a = L := by have := HNL.out j; omega
          have HT := Kp.mk (show F.take (j + 1) = F from List.take_of_length_le (by rw [HFL.out]; omega))
          have HAL := Kp.mk haL
          have hdl : decide ((a : Int) < (L : Int)) = false := by simp; omega
          have hnl : L ≤ a := by omega
          rw [HT.out, hjn] at hown
          rw [hjn]
          clear HT haL ha hlt hjn hj
          go_wp2
          go_ret
          exact ⟨_, rfl, own_eq hown rfl HFL.out.symm, hE⟩
end Go.Proofs.YtmnpbpfeoackiaaDoor
