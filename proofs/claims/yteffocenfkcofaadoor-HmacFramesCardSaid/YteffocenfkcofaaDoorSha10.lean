/-
  Package sha: the sum of a hash. Conditions: the package's table holds the constants; at most 900000 bytes.
-/
import Derived.Test.YteffocenfkcofaaDoorSha9
namespace Go.Proofs.YteffocenfkcofaaDoor
open Go.RowKit

set_option maxRecDepth 100000 in
set_option maxHeartbeats 4000000 in
theorem hsum_any (p : Nat) (t : List UInt8) (w : World) (hT : Tab w) (h : HashAt w p t) (hl : t.length ≤ 900000) : Calls Tryd.prog 53 #[.pointer (some ⟨p, 0, none⟩)] w fun e w' => e = .returned (.string (ofL (sumL t))) ∧ Ext w w' := by
  obtain ⟨E, hE⟩ : ∃ E, endingL t.length = E := ⟨_, rfl⟩
  obtain ⟨T, hTl⟩ : ∃ T, tlOf t = T := ⟨_, rfl⟩
  obtain ⟨sv, hsv⟩ : ∃ sv, stOf t = sv := ⟨_, rfl⟩
  obtain ⟨u, hu⟩ : ∃ u, foldS sv (T ++ E) = u := ⟨_, rfl⟩
  have hTn : T.length ≤ 63 := by rw [← hTl, length_tlOf]; omega
  have hEn : E.length ≤ 72 := by rw [← hE, length_endingL]; omega
  have hsum : sumL t = tellS u := by rw [← sum_parts, hE, hTl, hsv, hu]
  have he : ∀ w, Calls Tryd.prog 79 #[.int .i64 t.length] w fun e w' => e = .returned (.string (ofL E)) ∧ Ext w w' := fun w => by rw [← hE]; exact ending_any _ w (by omega)
  have ho : ∀ w, Tab w → Calls Tryd.prog 73 #[stV sv, .string (ofL (T ++ E))] w fun e w' => e = .returned (stV u) ∧ Ext w w' := fun w hw => by
    rw [← hu]; exact over_fold _ _ w hw (by rw [List.length_append]; omega)
  have B0 : Arr w p 96 (.bool true :: (stL sv ++ [.string (ofL T), .int .i64 t.length])) := by
    have := h
    unfold HashAt hashL Str at this
    rw [hsv, hTl] at this
    exact this
  have hap : ofL T ++ ofL E = ofL (T ++ E) := ofL_append _ _
  have hpw := h.lt
  have c0 := B0.cell 0
  simp only [List.getElem?_cons_zero] at c0
  rw [hsum]
  have HE := Lib.hid he; have HO := Lib.hid ho; have HAP := Lib.hid hap
  clear he ho hsum hu hsv hTl hE hap h
  go_enter Tryd.func53, Tryd.ntmps53
  go_upto_region 3 with fail
  clear c0
  refine wp_region_locals (fun i v W => match i with
    | 0 => v = .pointer (some ⟨p, 0, none⟩)
    | 1 => v = .pointer (some ⟨p, 0, none⟩)
    | 2 => v = .pointer (some ⟨p, 1, none⟩)
    | 3 => v = stV sv
    | 4 => v = .pointer (some ⟨p, 0, none⟩)
    | 5 => v = .pointer (some ⟨p, 0, none⟩)
    | 6 => v = .pointer (some ⟨p, 9, none⟩)
    | 7 => v = .string (ofL T)
    | 8 => v = .pointer (some ⟨p, 0, none⟩)
    | 9 => v = .pointer (some ⟨p, 0, none⟩)
    | 10 => v = .pointer (some ⟨p, 10, none⟩)
    | 11 => v = .int .i64 t.length
    | 12 => v = .string (ofL E)
    | 13 => v = .string (ofL (T ++ E))
    | 14 => v = stV u
    | 15 => v = .string (ofL (tellS u))
    | 16 => v = .string (ofL (tellS u))
    | _ => True) (by kernel_rfl) (by kernel_rfl) (by kernel_rfl) ?_ ?_ ?_
  · intro i v W1 W2 e1 e2 h
    match i, h with
    | 0, h => exact h
    | 1, h => exact h
    | 2, h => exact h
    | 3, h => exact h
    | 4, h => exact h
    | 5, h => exact h
    | 6, h => exact h
    | 7, h => exact h
    | 8, h => exact h
    | 9, h => exact h
    | 10, h => exact h
    | 11, h => exact h
    | 12, h => exact h
    | 13, h => exact h
    | 14, h => exact h
    | 15, h => exact h
    | 16, h => exact h
    | (i + 17), h => exact h
  · refine locals_cons (fun x W hE hd => leaves_val rfl (v := .pointer (some ⟨p, 0, none⟩)) (by go_simp) rfl) ?_
    refine locals_cons (fun x W hE hd => ?_) ?_
    · have h1 : x 0 = _ := hd 0 (by kernel_rfl)
      exact leaves_val rfl (v := .pointer (some ⟨p, 0, none⟩)) (by go_simp) rfl
    refine locals_cons (fun x W hE hd => ?_) ?_
    · have h1 : x 1 = _ := hd 1 (by kernel_rfl)
      exact leaves_val rfl (v := .pointer (some ⟨p, 1, none⟩)) (by go_simp) rfl
    refine locals_cons (fun x W hE hd => ?_) ?_
    · have h1 : x 2 = _ := hd 2 (by kernel_rfl)
      have B := B0.ext hE B0.lt
      have c1 := B.cell 1; have c2 := B.cell 2; have c3 := B.cell 3; have c4 := B.cell 4; have c5 := B.cell 5; have c6 := B.cell 6; have c7 := B.cell 7; have c8 := B.cell 8
      simp only [List.getElem?_cons_zero, List.getElem?_cons_succ, List.cons_append] at c1 c2 c3 c4 c5 c6 c7 c8
      exact leaves_val rfl (v := stV sv) (by go_simp) rfl
    refine locals_cons (fun x W hE hd => leaves_val rfl (v := .pointer (some ⟨p, 0, none⟩)) (by go_simp) rfl) ?_
    refine locals_cons (fun x W hE hd => ?_) ?_
    · have h1 : x 4 = _ := hd 4 (by kernel_rfl)
      exact leaves_val rfl (v := .pointer (some ⟨p, 0, none⟩)) (by go_simp) rfl
    refine locals_cons (fun x W hE hd => ?_) ?_
    · have h1 : x 5 = _ := hd 5 (by kernel_rfl)
      exact leaves_val rfl (v := .pointer (some ⟨p, 9, none⟩)) (by go_simp) rfl
    refine locals_cons (fun x W hE hd => ?_) ?_
    · have h1 : x 6 = _ := hd 6 (by kernel_rfl)
      have c9 := (B0.ext hE B0.lt).cell 9
      simp only [List.getElem?_cons_zero, List.getElem?_cons_succ, List.cons_append, List.nil_append] at c9
      exact leaves_val rfl (v := .string (ofL T)) (by go_simp) rfl
    refine locals_cons (fun x W hE hd => leaves_val rfl (v := .pointer (some ⟨p, 0, none⟩)) (by go_simp) rfl) ?_
    refine locals_cons (fun x W hE hd => ?_) ?_
    · have h1 : x 8 = _ := hd 8 (by kernel_rfl)
      exact leaves_val rfl (v := .pointer (some ⟨p, 0, none⟩)) (by go_simp) rfl
    refine locals_cons (fun x W hE hd => ?_) ?_
    · have h1 : x 9 = _ := hd 9 (by kernel_rfl)
      exact leaves_val rfl (v := .pointer (some ⟨p, 10, none⟩)) (by go_simp) rfl
    refine locals_cons (fun x W hE hd => ?_) ?_
    · have h1 : x 10 = _ := hd 10 (by kernel_rfl)
      have c10 := (B0.ext hE B0.lt).cell 10
      simp only [List.getElem?_cons_zero, List.getElem?_cons_succ, List.cons_append, List.nil_append] at c10
      exact leaves_val rfl (v := .int .i64 t.length) (by go_simp) rfl
    refine locals_cons (fun x W hE hd => ?_) ?_
    · have h1 : x 11 = _ := hd 11 (by kernel_rfl)
      exact leaves_call rfl (f := 79) (args := #[.int .i64 t.length]) (by go_simp) ((HE.out W).mono (by rintro e9 W9 ⟨rfl, h9⟩; exact ⟨_, rfl, h9, rfl⟩))
    refine locals_cons (fun x W hE hd => ?_) ?_
    · have h1 : x 7 = _ := hd 7 (by kernel_rfl)
      have h2 : x 12 = _ := hd 12 (by kernel_rfl)
      have hap := HAP.out
      have hz : ¬ (9223372036854775807 < T.length + E.length) := by omega
      exact leaves_val rfl (v := .string (ofL (T ++ E))) (by go_simp) rfl
    refine locals_cons (fun x W hE hd => ?_) ?_
    · have h1 : x 3 = _ := hd 3 (by kernel_rfl)
      have h2 : x 13 = _ := hd 13 (by kernel_rfl)
      exact leaves_call rfl (f := 73) (args := #[stV sv, .string (ofL (T ++ E))]) (by go_simp) ((HO.out W (hT.ext hE)).mono (by rintro e9 W9 ⟨rfl, h9⟩; exact ⟨_, rfl, h9, rfl⟩))
    refine locals_cons (fun x W hE hd => ?_) ?_
    · have h1 : x 14 = _ := hd 14 (by kernel_rfl)
      exact leaves_call rfl (f := 72) (args := #[stV u]) (by go_simp) ((tell_any u W).mono (by rintro e9 W9 ⟨rfl, h9⟩; exact ⟨_, rfl, h9, rfl⟩))
    refine locals_cons (fun x W hE hd => ?_) locals_nil
    · have h1 : x 15 = _ := hd 15 (by kernel_rfl)
      exact leaves_val rfl (v := .string (ofL (tellS u))) (by go_simp) rfl
  · intro x W1 hE1 hV
    have h16 : x 16 = _ := hV 16 (by decide)
    clear hV
    go_wp2
    refine bodyPost_ret (v := .string (ofL (tellS u))) (by simp [results, Tryd.results53, go_sem, h16]) rfl ?_
    exact ⟨rfl, hE1⟩
end Go.Proofs.YteffocenfkcofaaDoor
