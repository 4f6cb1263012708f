/-
  Package sha: the sum of a text; a hash of nothing, parts added to it, its sum and length. Conditions: the package's table holds the constants; at most 900000 bytes.
-/
import Derived.Test.YteffocenfkcofaaDoorSha8
import Derived.Test.YteffocenfkcofaaDoorShaLaw
import Derived.Test.YteffocenfkcofaaDoorInv4
namespace Go.Proofs.YteffocenfkcofaaDoor
open Go.RowKit

theorem over_fold (v : St) (s : List UInt8) (w : World) (hT : Tab w) (hs : s.length ≤ 1000000) : Calls Tryd.prog 73 #[stV v, .string (ofL s)] w fun e w' => e = .returned (stV (foldS v s)) ∧ Ext w w' := over_any v s w hT hs

theorem shaPad_le (s : List UInt8) : (shaPad s).length ≤ s.length + 72 := by unfold shaPad; rw [List.length_append, length_endingL]; omega

set_option maxHeartbeats 1000000 in
theorem sum_any (s : List UInt8) (w : World) (hT : Tab w) (hs : s.length ≤ 900000) : Calls Tryd.prog 49 #[.string (ofL s)] w fun e w' => e = .returned (.string (ofL (sumL s))) ∧ Ext w w' := by
  obtain ⟨P, hP⟩ : ∃ P, shaPad s = P := ⟨_, rfl⟩
  have hl : P.length ≤ 1000000 := by rw [← hP]; have := shaPad_le s; omega
  have hp : ∀ w, Calls Tryd.prog 75 #[.string (ofL s)] w fun e w' => e = .returned (.string (ofL P)) ∧ Ext w w' := fun w => by rw [← hP]; exact pad_sha s w (by omega)
  obtain ⟨u, hu⟩ : ∃ u, foldS initS P = u := ⟨_, rfl⟩
  have ho : ∀ w, Tab w → Calls Tryd.prog 73 #[stV initS, .string (ofL P)] w fun e w' => e = .returned (stV u) ∧ Ext w w' := fun w hw => by rw [← hu]; exact over_fold initS P w hw hl
  have hr : sumL s = tellS u := by rw [sumL_fold, hP, hu]
  rw [hr]
  have HP := Lib.hid hp; have HO := Lib.hid ho
  clear hp ho hr hu hP hl
  go_enter Tryd.func49, Tryd.ntmps49
  go_wp2_with fail
  refine (first_any _).mono ?_
  rintro e w1 ⟨rfl, hE1⟩
  go_wp2_with fail
  refine (HP.out _).mono ?_
  rintro e w2 ⟨rfl, hE2⟩
  have E2 := hE1.tr hE2
  go_wp2_with fail
  refine (HO.out _ (hT.ext E2)).mono ?_
  rintro e w3 ⟨rfl, hE3⟩
  go_wp2_with fail
  refine (tell_any u _).mono ?_
  rintro e w4 ⟨rfl, hE4⟩
  go_wp2
  go_ret
  exact ⟨rfl, (E2.tr hE3).tr hE4⟩

/-- A hash lies in a block of its own. -/
def hashL (t : List UInt8) : List Value := .bool true :: (stL (stOf t) ++ [Str (tlOf t), .int .i64 t.length])
def HashAt (w : World) (p : Nat) (t : List UInt8) : Prop := Arr w p 96 (hashL t)

set_option maxHeartbeats 1000000 in
theorem new_any (w : World) : Calls Tryd.prog 50 #[] w fun e w' => ∃ p, e = .returned (.pointer (some ⟨p, 0, none⟩)) ∧ w.heap.size ≤ p ∧ HashAt w' p [] ∧ Ext w w' := by
  go_enter Tryd.func50, Tryd.ntmps50
  go_wp2_with ((with_reducible refine (first_any _).mono ?_); rintro e w2 ⟨rfl, hE2⟩)
  exact bodyPost_ret (v := .pointer (some ⟨w2.heap.size, 0, none⟩)) (by simp [results, Tryd.results50, go_sem]) rfl ⟨_, rfl, hE2.size, Arr.new _ _ _, hE2.al _⟩

theorem HashAt.cells {w : World} {p : Nat} {t : List UInt8} (h : HashAt w p t) : w.cell? ⟨p, 0, none⟩ = some (.bool true) ∧ w.cell? ⟨p, 1, none⟩ = some (W32 (stOf t).a) ∧ w.cell? ⟨p, 2, none⟩ = some (W32 (stOf t).b) ∧ w.cell? ⟨p, 3, none⟩ = some (W32 (stOf t).c) ∧ w.cell? ⟨p, 4, none⟩ = some (W32 (stOf t).d) ∧
    w.cell? ⟨p, 5, none⟩ = some (W32 (stOf t).e) ∧ w.cell? ⟨p, 6, none⟩ = some (W32 (stOf t).f) ∧ w.cell? ⟨p, 7, none⟩ = some (W32 (stOf t).g) ∧ w.cell? ⟨p, 8, none⟩ = some (W32 (stOf t).h) ∧ w.cell? ⟨p, 9, none⟩ = some (Str (tlOf t)) ∧ w.cell? ⟨p, 10, none⟩ = some (.int .i64 t.length) :=
  ⟨h.cell 0, h.cell 1, h.cell 2, h.cell 3, h.cell 4, h.cell 5, h.cell 6, h.cell 7, h.cell 8, h.cell 9, h.cell 10⟩
theorem grown_set {w w' : World} {p j : Nat} (h : w.grownBy w' (some p)) (u : Value) : w.grownBy (w'.setCell ⟨p, j, none⟩ u) (some p) :=
  ⟨h.os, h.tape, h.output, by have := h.size; simpa using this, fun k hk hn => (heap_setCell_other w' ⟨p, j, none⟩ k u (fun e => hn (by simp [e]))).trans (h.block k hk hn)⟩
theorem grown_ext {w w' w2 : World} {p : Nat} (h : w.grownBy w' (some p)) (hE : Ext w' w2) : w.grownBy w2 (some p) :=
  ⟨hE.os.trans h.os, hE.tape.trans h.tape, hE.output.trans h.output, Nat.le_trans h.size hE.size, fun k hk hn => (hE.block k (Nat.lt_of_lt_of_le hk h.size)).trans (h.block k hk hn)⟩
theorem clone_any (s : ByteArray) (w : World) (hs : s.size ≤ 1000000) : Calls Tryd.prog 76 #[.string s] w fun e w' => e = .returned (.string s) ∧ Ext w w' := by
  go_enter Tryd.func76, Tryd.ntmps76
  go_wp2_with ((with_reducible refine (Tryd.stringslite_Clone s _ (by omega)).mono ?_); rintro e w' ⟨rfl, hE⟩)
  go_ret
  exact ⟨rfl, hE⟩
def AddPost (w : World) (p : Nat) (t : List UInt8) (e : Ending) (w' : World) : Prop := e = .returned (.tuple #[]) ∧ HashAt w' p t ∧ w.grownBy w' (some p)

set_option maxRecDepth 100000 in
set_option maxHeartbeats 4000000 in
theorem add_any (p : Nat) (t s : List UInt8) (w : World) (hT : Tab w) (hp : 0 < p) (h : HashAt w p t) (hl : t.length + s.length ≤ 900000) : Calls Tryd.prog 51 #[.pointer (some ⟨p, 0, none⟩), .string (ofL s)] w (AddPost w p (t ++ s)) := by
  obtain ⟨A, hA⟩ : ∃ A, tlOf t ++ s = A := ⟨_, rfl⟩
  have hAl : A.length ≤ 900000 := by rw [← hA, List.length_append, length_tlOf]; omega
  have happ : ofL (tlOf t) ++ ofL s = ofL A := by rw [ofL_append, hA]
  obtain ⟨q, hq⟩ : ∃ q, A.length / 64 * 64 = q := ⟨_, rfl⟩
  have hq' : (A.length : Int) / 64 * 64 = q := by omega
  have hqle : q ≤ A.length := by omega
  have ex1 : (ofL A).extract 0 q = ofL (A.take q) := by rw [extract_to, toL_ofL]
  have ex2 : (ofL A).extract q A.length = ofL (A.drop q) := by
    have := extract_from (ofL A) q
    rw [size_ofL, toL_ofL] at this
    exact this
  obtain ⟨u, hu⟩ : ∃ u, foldS (stOf t) (A.take q) = u := ⟨_, rfl⟩
  have ho : ∀ w, Tab w → Calls Tryd.prog 73 #[stV (stOf t), .string (ofL (A.take q))] w fun e w' => e = .returned (stV u) ∧ Ext w w' := fun w hw => by
    rw [← hu]; exact over_fold _ _ w hw (by rw [List.length_take]; omega)
  have hend : hashL (t ++ s) = .bool true :: (stL u ++ [Str (A.drop q), .int .i64 ((t.length : Int) + s.length)]) := by
    unfold hashL
    rw [← stOf_add, ← tlOf_add, hA, hq, hu]
    simp
  have hszs := size_ofL s
  have hszt : (tlOf t).length ≤ 63 := by rw [length_tlOf]; omega
  obtain ⟨d0, d1, d2, d3, d4, d5, d6, d7, d8, d9, d10⟩ := h.cells
  have df := h.frozen 10
  have hpw := h.lt
  unfold Str at d9
  obtain ⟨T, hTl⟩ : ∃ T, tlOf t = T := ⟨_, rfl⟩
  rw [hTl] at d9 happ hszt
  have HA := Lib.hid h
  have HO := Lib.hid ho; have HEND := Lib.hid hend; have HU := Lib.hid hu; have HQ := Lib.hid hq; have HAA := Lib.hid hA; have HTT := Lib.hid hTl
  clear h ho hend hu hq hA hTl
  go_enter Tryd.func51, Tryd.ntmps51
  go_upto_region 4 with fail
  have B0 : Arr (w.setCell ⟨p, 10, none⟩ (.int .i64 ((t.length : Int) + s.length))) p 96 (.bool true :: (stL (stOf t) ++ [.string (ofL T), .int .i64 ((t.length : Int) + s.length)])) := by
    have h := Arr.set HA.out 10 (.int .i64 ((t.length : Int) + s.length))
    unfold hashL Str at h
    rw [HTT.out] at h
    simpa using h
  have G0 : w.grownBy (w.setCell ⟨p, 10, none⟩ (.int .i64 ((t.length : Int) + s.length))) (some p) :=
    ⟨rfl, rfl, rfl, by simp, fun k _ hk => heap_setCell_other w ⟨p, 10, none⟩ k _ (fun e => hk (by simp [e]))⟩
  have T0 : Tab (w.setCell ⟨p, 10, none⟩ (.int .i64 ((t.length : Int) + s.length))) := ⟨by simpa using hT.1, fun i hi => by
    have e : (w.setCell ⟨p, 10, none⟩ (.int .i64 ((t.length : Int) + s.length))).heap[0]? = w.heap[0]? := heap_setCell_other w ⟨p, 10, none⟩ 0 _ (show 0 ≠ p by omega)
    exact (World.cell?_of_block (a := ⟨0, i, none⟩) e).trans (hT.2 i hi)⟩
  clear d0 d1 d2 d3 d4 d5 d6 d7 d8 d9 d10 df
  generalize w.setCell ⟨p, 10, none⟩ (.int .i64 ((t.length : Int) + s.length)) = W0 at *
  obtain ⟨ua, ub, uc, ud, ue, uf, ug, uh⟩ := u
  obtain ⟨sv, hsv⟩ : ∃ sv, stOf t = sv := ⟨_, rfl⟩
  rw [hsv] at B0
  have HO' : Hid (∀ w, Tab w → Calls Tryd.prog 73 #[stV sv, .string (ofL (A.take q))] w fun e w' => e = .returned (stV ⟨ua, ub, uc, ud, ue, uf, ug, uh⟩) ∧ Ext w w') := by rw [← hsv]; exact HO
  clear HO
  refine wp_region_tail (n := 11) (fun i v W => match i with
    | 0 => v = .pointer (some ⟨p, 0, none⟩)
    | 1 => v = .pointer (some ⟨p, 0, none⟩)
    | 2 => v = .pointer (some ⟨p, 0, none⟩)
    | 3 => v = .pointer (some ⟨p, 1, none⟩)
    | 4 => v = stV sv
    | 5 => v = .string (ofL A)
    | 6 => v = .int .i64 q
    | 7 => v = .string (ofL (A.take q))
    | 8 => v = stV ⟨ua, ub, uc, ud, ue, uf, ug, uh⟩
    | 9 => v = .pointer (some ⟨p, 0, none⟩)
    | 10 => v = .pointer (some ⟨p, 1, none⟩)
    | _ => True) (by kernel_rfl) rfl rfl (by kernel_rfl) rfl (by kernel_rfl) (by kernel_rfl) ?_ ?_ ?_
  · intro i v W1 W2 e1 e2 h
    match i, h with
    | 0, h => exact h
    | 1, h => exact h
    | 2, h => exact h
    | 3, h => exact h
    | 4, h => exact h
    | 5, h => exact h
    | 6, h => exact h
    | 7, h => exact h
    | 8, h => exact h
    | 9, h => exact h
    | 10, h => exact h
    | (i + 11), h => exact h
  · refine locals_cons (fun u W hE hd => leaves_val rfl (v := .pointer (some ⟨p, 0, none⟩)) (by go_simp) rfl) ?_
    refine locals_cons (fun u W hE hd => leaves_val rfl (v := .pointer (some ⟨p, 0, none⟩)) (by go_simp) rfl) ?_
    refine locals_cons (fun u W hE hd => ?_) ?_
    · have h1 : u 1 = _ := hd 1 (by kernel_rfl)
      exact leaves_val rfl (v := .pointer (some ⟨p, 0, none⟩)) (by go_simp) rfl
    refine locals_cons (fun u W hE hd => ?_) ?_
    · have h1 : u 2 = _ := hd 2 (by kernel_rfl)
      exact leaves_val rfl (v := .pointer (some ⟨p, 1, none⟩)) (by go_simp) rfl
    refine locals_cons (fun u W hE hd => ?_) ?_
    · have h1 : u 3 = _ := hd 3 (by kernel_rfl)
      have B := B0.ext hE B0.lt
      have c1 := B.cell 1; have c2 := B.cell 2; have c3 := B.cell 3; have c4 := B.cell 4; have c5 := B.cell 5; have c6 := B.cell 6; have c7 := B.cell 7; have c8 := B.cell 8
      simp only [List.getElem?_cons_zero, List.getElem?_cons_succ, List.cons_append] at c1 c2 c3 c4 c5 c6 c7 c8
      exact leaves_val rfl (v := stV sv) (by go_simp) rfl
    refine locals_cons (fun u W hE hd => leaves_val rfl (v := .string (ofL A)) (by go_simp) rfl) ?_
    refine locals_cons (fun u W hE hd => leaves_val rfl (v := .int .i64 q) (by go_simp) rfl) ?_
    refine locals_cons (fun u W hE hd => ?_) ?_
    · have h1 : u 5 = _ := hd 5 (by kernel_rfl)
      have h2 : u 6 = _ := hd 6 (by kernel_rfl)
      exact leaves_val rfl (v := .string (ofL (A.take q))) (by go_simp) rfl
    refine locals_cons (fun u W hE hd => ?_) ?_
    · have h1 : u 4 = _ := hd 4 (by kernel_rfl)
      have h2 : u 7 = _ := hd 7 (by kernel_rfl)
      exact leaves_call rfl (f := 73) (args := #[stV sv, .string (ofL (A.take q))]) (by go_simp) ((HO'.out W (T0.ext hE)).mono (by rintro e9 W9 ⟨rfl, h9⟩; exact ⟨_, rfl, h9, rfl⟩))
    refine locals_cons (fun u W hE hd => ?_) ?_
    · have h1 : u 0 = _ := hd 0 (by kernel_rfl)
      exact leaves_val rfl (v := .pointer (some ⟨p, 0, none⟩)) (by go_simp) rfl
    refine locals_cons (fun u W hE hd => ?_) locals_nil
    · have h1 : u 9 = _ := hd 9 (by kernel_rfl)
      exact leaves_val rfl (v := .pointer (some ⟨p, 1, none⟩)) (by go_simp) rfl
  · intro x W1 hE1 hV
    have h8 : x 8 = stV ⟨ua, ub, uc, ud, ue, uf, ug, uh⟩ := hV 8 (by decide)
    have h10 : x 10 = .pointer (some ⟨p, 1, none⟩) := hV 10 (by decide)
    clear hV
    have B1 := B0.ext hE1 B0.lt
    have c1 := B1.cell 1; have c2 := B1.cell 2; have c3 := B1.cell 3; have c4 := B1.cell 4; have c5 := B1.cell 5; have c6 := B1.cell 6; have c7 := B1.cell 7; have c8 := B1.cell 8
    simp only [List.getElem?_cons_zero, List.getElem?_cons_succ, List.cons_append] at c1 c2 c3 c4 c5 c6 c7 c8
    have f1 := B1.frozen 1; have f2 := B1.frozen 2; have f3 := B1.frozen 3; have f4 := B1.frozen 4; have f5 := B1.frozen 5; have f6 := B1.frozen 6; have f7 := B1.frozen 7; have f8 := B1.frozen 8
    refine ⟨rfl, _, by go_simp; rfl, ?_⟩
    clear c1 c2 c3 c4 c5 c6 c7 c8 f1 f2 f3 f4 f5 f6 f7 f8
    have B2 := ((((((((B1.set 1 (W32 ua)).set 2 (W32 ub)).set 3 (W32 uc)).set 4 (W32 ud)).set 5 (W32 ue)).set 6 (W32 uf)).set 7 (W32 ug)).set 8 (W32 uh))
    simp only [List.set_cons_zero, List.set_cons_succ, List.cons_append, List.nil_append] at B2
    have g1 := grown_ext G0 hE1
    have G2 := (grown_set (grown_set (grown_set (grown_set (grown_set (grown_set (grown_set (grown_set g1 (j := 1) (W32 ua)) (j := 2) (W32 ub)) (j := 3) (W32 uc)) (j := 4) (W32 ud)) (j := 5) (W32 ue)) (j := 6) (W32 uf)) (j := 7) (W32 ug)) (j := 8) (W32 uh))
    clear B1 B0 G0 g1 hE1 T0 h8 h10 HO'
    generalize World.setCell _ ⟨p, 8, none⟩ (W32 uh) = W2 at *
    clear W1
    have hp2 := B2.lt
    go_wp2_with ((with_reducible refine (clone_any _ _ (by rw [size_ofL, List.length_drop]; omega)).mono ?_); rintro e W3 ⟨rfl, hE3⟩; have B3 := B2.ext hE3 hp2; have c9 := B3.cell 9; simp only [List.getElem?_cons_zero, List.getElem?_cons_succ] at c9; have f9 := B3.frozen 9)
    refine bodyPost_end (v := .tuple #[]) (by simp [results, Tryd.results51, go_sem]) rfl ⟨rfl, ?_, grown_set (grown_ext G2 hE3) _⟩
    have B4 := B3.set 9 (.string (ofL (A.drop q)))
    unfold HashAt
    rw [HEND.out]
    exact B4

/-! ### a hash that was not made, and none -/
theorem add_nil (s : ByteArray) (w : World) : Calls Tryd.prog 51 #[.pointer none, .string s] w fun e w' => e = .returned (.tuple #[]) ∧ w' = w := by
  go_enter Tryd.func51, Tryd.ntmps51
  go_wp2
  exact bodyPost_ret (v := .tuple #[]) (by simp [results, Tryd.results51, go_sem]) rfl ⟨rfl, rfl⟩
theorem add_zero (p : Nat) (s : ByteArray) (w : World) (hc : w.cell? ⟨p, 0, none⟩ = some (.bool false)) : Calls Tryd.prog 51 #[.pointer (some ⟨p, 0, none⟩), .string s] w fun e w' => e = .returned (.tuple #[]) ∧ w' = w := by
  go_enter Tryd.func51, Tryd.ntmps51
  go_wp2
  exact bodyPost_ret (v := .tuple #[]) (by simp [results, Tryd.results51, go_sem]) rfl ⟨rfl, rfl⟩
theorem hsum_nil (w : World) (hT : Tab w) : Calls Tryd.prog 53 #[.pointer none] w fun e w' => e = .returned (.string (ofL (sumL []))) ∧ Ext w w' := by
  obtain ⟨r, hr⟩ : ∃ r, sumL [] = r := ⟨_, rfl⟩
  have h : ∀ w, Tab w → Calls Tryd.prog 49 #[.string ⟨#[]⟩] w fun e w' => e = .returned (.string (ofL r)) ∧ Ext w w' := fun w hw => by rw [← hr]; exact sum_any [] w hw (by simp)
  rw [hr]
  have H := Lib.hid h
  clear h hr
  go_enter Tryd.func53, Tryd.ntmps53
  go_wp2_with ((with_reducible refine (H.out _ hT).mono ?_); rintro e w' ⟨rfl, hE⟩)
  go_ret
  exact ⟨rfl, hE⟩
theorem hsum_zero (p : Nat) (w : World) (hT : Tab w) (hc : w.cell? ⟨p, 0, none⟩ = some (.bool false)) : Calls Tryd.prog 53 #[.pointer (some ⟨p, 0, none⟩)] w fun e w' => e = .returned (.string (ofL (sumL []))) ∧ Ext w w' := by
  obtain ⟨r, hr⟩ : ∃ r, sumL [] = r := ⟨_, rfl⟩
  have h : ∀ w, Tab w → Calls Tryd.prog 49 #[.string ⟨#[]⟩] w fun e w' => e = .returned (.string (ofL r)) ∧ Ext w w' := fun w hw => by rw [← hr]; exact sum_any [] w hw (by simp)
  rw [hr]
  have H := Lib.hid h
  clear h hr
  go_enter Tryd.func53, Tryd.ntmps53
  go_wp2_with ((with_reducible refine (H.out _ hT).mono ?_); rintro e w' ⟨rfl, hE⟩)
  go_ret
  exact ⟨rfl, hE⟩
end Go.Proofs.YteffocenfkcofaaDoor
