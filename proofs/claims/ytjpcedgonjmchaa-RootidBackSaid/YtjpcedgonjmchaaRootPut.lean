/-
  Package rootid: Put. No condition but the reach of a string.
-/
import Derived.Test.YtjpcedgonjmchaaRoot
import Derived.Test.YtjpcedgonjmchaaInv2
namespace Go.Proofs.Ytjpcedgonjmchaa
open Go.RowKit

theorem index3 (a b c : Value) (W : World) : (Instr.index 49 (.agg #[a, b, c]) (.int .i64 0)).run Try.prog W = .ok a W ∧ (Instr.index 49 (.agg #[a, b, c]) (.int .i64 1)).run Try.prog W = .ok b W ∧ (Instr.index 49 (.agg #[a, b, c]) (.int .i64 2)).run Try.prog W = .ok c W := by
  refine ⟨?_, ?_, ?_⟩ <;> simp [Instr.index, run_underlying Try.underlying49, asIntOf, go_sem]

set_option maxRecDepth 100000 in
set_option maxHeartbeats 2000000 in
theorem root_put (r : Root) (w : World) :
    Calls Try.prog 10 #[rootV r] w fun ee w' => ee = .returned (.tuple #[.string (ofL (rootPut r).1), .int .i64 (rootPut r).2]) ∧ Ext w w' := by
  obtain ⟨t, k, e, n⟩ := r
  obtain ⟨w2, hw2, hE2, hz2, hc⟩ := root_box w ⟨t, k, e, n⟩
  have HW2 := Lib.hid hw2; clear hw2
  by_cases hw : wordL t = true
  · by_cases hn : (numOk k && (numOk e && numOk n)) = true
    · rw [rootPut_ok hw hn]
      have hn' := hn
      simp only [Bool.and_eq_true] at hn'
      obtain ⟨n1, n2, n3⟩ := hn'
      obtain ⟨k, rfl, hk⟩ := numOk_of n1
      obtain ⟨e, rfl, he⟩ := numOk_of n2
      obtain ⟨n, rfl, hnn⟩ := numOk_of n3
      have u1 : IntKind.u64.wrap (k : Int) = (k : Int) := U64.wrap (by show _ < _; omega)
      have u2 : IntKind.u64.wrap (e : Int) = (e : Int) := U64.wrap (by show _ < _; omega)
      have u3 : IntKind.u64.wrap (n : Int) = (n : Int) := U64.wrap (by show _ < _; omega)
      go_enter Try.func10, Try.ntmps10
      go_wp2_with fail
      rw [← HW2.out]
      refine (word_any _ _).mono ?_
      rintro e1 w3 ⟨rfl, hE3⟩
      rw [toL_ofL, hw]
      have c1 := hc _ hE3 1 _ rfl
      have c2 := hc _ hE3 2 _ rfl
      have c3 := hc _ hE3 3 _ rfl
      clear HW2
      go_wp2_with fail
      refine (within_any _ k e n _ ?_ ?_ ?_).mono ?_
      · simp [go_sem]
      · simp [go_sem]
      · simp [go_sem]
      rintro e4 w4 ⟨rfl, rfl⟩
      rw [hn]
      go_wp2
      obtain ⟨w4, hw4⟩ : ∃ w4, w4 = w3.alloc (.cells #[.int .i64 k, .int .i64 e, .int .i64 n] 3) := ⟨_, rfl⟩
      rw [← hw4]
      have hE4 : Ext w2 w4 := hE3.tr (by rw [hw4]; exact (Ext.rfl' _).al _)
      clear hw4 c1 c2 c3
      have hs : ∀ (W : World) (b : Nat), W.cell? ⟨b, 0, none⟩ = some (.int .u8 1) → (convert 47 9 (.slice (some ⟨b, 0, none⟩) 1 1)).run Try.prog W = .ok (.string (ofL [1])) W := fun W b hb =>
        run_str_cells W _ _ _ Try.underlying47 Try.underlying5 Try.underlying9 ⟨b, 0, none⟩ 1 1 [1] rfl (fun j u hu => by
          match j, hu with
          | 0, hu => rw [← Option.some.inj hu]; exact hb)
      have ht32 := (wordL_len hw).2
      have z0 := fText_len2 t
      have x1 : ofL [1] ++ ofL (fText t) = ofL (1 :: fText t) := ofL_append [1] (fText t)
      refine wp_region_locals (fun k v W => match k with
        | 0 => ∃ b, v = .slice (some ⟨b, 0, none⟩) 1 1 ∧ W.cell? ⟨b, 0, none⟩ = some (.int .u8 1)
        | 1 => v = .string (ofL [1])
        | 2 => v = .pointer (some ⟨w.heap.size, 0, none⟩)
        | 3 => v = .string (ofL t)
        | 4 => v = .string (ofL (fText t))
        | 5 => v = .string (ofL (1 :: fText t))
        | 6 => v = .string (ofL (1 :: fText t))
        | _ => True) (by kernel_rfl) (by kernel_rfl) (by kernel_rfl) ?_ ?_ ?_
      · intro k v W1 W2 e1 e2 h
        match k, h with
        | 0, ⟨b, h1, h2⟩ => exact ⟨b, h1, ((bcell e2).1 b 0 (World.block_lt_of_cell? _ _ h2)).trans h2⟩
        | 1, h => exact h
        | 2, h => exact h
        | 3, h => exact h
        | 4, h => exact h
        | 5, h => exact h
        | 6, h => exact h
        | (k + 7), h => exact h
      · refine locals_cons (fun u W hE hd => leaves_new rfl (v := .slice (some ⟨W.heap.size, 0, none⟩) 1 1) (by go_simp; rfl) ((Ext.rfl' W).al _) ⟨_, rfl, by simp [go_sem]⟩) ?_
        refine locals_cons (fun u W hE hd => ?_) ?_
        · obtain ⟨b, h1, h2⟩ := hd 0 (by kernel_rfl)
          have hs := hs W b h2
          exact leaves_val rfl (v := .string (ofL [1])) (by go_simp) rfl
        refine locals_cons (fun u W hE hd => leaves_val rfl (v := .pointer (some ⟨w.heap.size, 0, none⟩)) (by go_simp) rfl) ?_
        refine locals_cons (fun u W hE hd => ?_) ?_
        · have h1 : u 2 = _ := hd 2 (by kernel_rfl)
          have h2 := hc W (hE4.tr hE) 0 _ rfl
          exact leaves_val rfl (v := .string (ofL t)) (by go_simp) rfl
        refine locals_cons (fun u W hE hd => ?_) ?_
        · have h1 : u 3 = _ := hd 3 (by kernel_rfl)
          exact leaves_call rfl (f := 23) (args := #[.string (ofL t)]) (by go_simp) ((ftext_any (ofL t) W (by rw [size_ofL]; omega)).mono (by rintro e9 W9 ⟨rfl, h9⟩; exact ⟨_, rfl, h9, show Value.string (ofL (fText (toL (ofL t)))) = .string (ofL (fText t)) from by rw [toL_ofL]⟩))
        refine locals_cons (fun u W hE hd => ?_) ?_
        · have h1 : u 1 = _ := hd 1 (by kernel_rfl)
          have h4 : u 4 = _ := hd 4 (by kernel_rfl)
          exact leaves_val rfl (v := .string (ofL (1 :: fText t))) (by go_simp; omega) rfl
        refine locals_cons (fun u W hE hd => ?_) locals_nil
        · have h1 : u 5 = _ := hd 5 (by kernel_rfl)
          exact leaves_val rfl (v := .string (ofL (1 :: fText t))) (by go_simp) rfl
      · intro u w5 E5 hV
        have h6 : u 6 = _ := hV 6 (by decide)
        have E25 := hE4.tr E5
        have k1 := hc w5 E25 1 _ rfl
        have k2 := hc w5 E25 2 _ rfl
        have k3 := hc w5 E25 3 _ rfl
        clear hc hs hV
        have x2 : ofL (1 :: fText t) ++ ofL (vput k) = ofL (1 :: (fText t ++ vput k)) := ofL_append (1 :: fText t) (vput k)
        have x3 : ofL (1 :: (fText t ++ vput k)) ++ ofL (vput e) = ofL (1 :: (fText t ++ (vput k ++ vput e))) := by rw [ofL_append]; simp
        have x4 : ofL (1 :: (fText t ++ (vput k ++ vput e))) ++ ofL (vput n) = ofL (1 :: (fText t ++ (vput k ++ (vput e ++ vput n)))) := by rw [ofL_append]; simp
        have z1 := length_vput k
        have z2 := length_vput e
        have z3 := length_vput n
        have i0 := fun W => (index3 (.int .i64 k) (.int .i64 e) (.int .i64 n) W).1
        have i1 := fun W => (index3 (.int .i64 k) (.int .i64 e) (.int .i64 n) W).2.1
        have i2 := fun W => (index3 (.int .i64 k) (.int .i64 e) (.int .i64 n) W).2.2
        go_wp2
        refine wp_loop_rounds 4 ?_
        rw [rounds_succ]
        go_wp2_with fail
        refine (fnum_any k _ (by show _ < _; omega)).mono ?_
        rintro e6 w6 ⟨rfl, hE6⟩
        go_wp2
        rw [rounds_succ]
        go_wp2_with fail
        refine (fnum_any e _ (by show _ < _; omega)).mono ?_
        rintro e7 w7 ⟨rfl, hE7⟩
        go_wp2
        rw [rounds_succ]
        go_wp2_with fail
        refine (fnum_any n _ (by show _ < _; omega)).mono ?_
        rintro e8 w8 ⟨rfl, hE8⟩
        go_wp2
        rw [rounds_succ]
        go_wp2
        refine bodyPost_ret (v := .tuple #[.string (ofL (1 :: (fText t ++ (vput k ++ (vput e ++ vput n))))), .int .i64 0]) (by simp [results, Try.results10, go_sem]) rfl ?_
        exact ⟨rfl, (((hE2.tr E25).tr hE6).tr hE7).tr hE8⟩
    · have hn : (numOk k && (numOk e && numOk n)) = false := by simpa using hn
      rw [rootPut_limit hw hn]
      go_enter Try.func10, Try.ntmps10
      go_wp2_with fail
      rw [← HW2.out]
      refine (word_any _ _).mono ?_
      rintro e1 w3 ⟨rfl, hE3⟩
      rw [toL_ofL, hw]
      have c1 := hc _ hE3 1 _ rfl
      have c2 := hc _ hE3 2 _ rfl
      have c3 := hc _ hE3 3 _ rfl
      clear HW2
      go_wp2_with fail
      refine (within_any _ k e n _ ?_ ?_ ?_).mono ?_
      · simp [go_sem]
      · simp [go_sem]
      · simp [go_sem]
      rintro e4 w4 ⟨rfl, rfl⟩
      rw [hn]
      go_wp2
      refine bodyPost_ret (v := .tuple #[.string (ofL []), .int .i64 3]) (by simp [results, Try.results10, go_sem]; rfl) rfl ?_
      exact ⟨rfl, (hE2.tr hE3).al _⟩
  · have hw : wordL t = false := by simpa using hw
    rw [rootPut_name hw]
    go_enter Try.func10, Try.ntmps10
    go_wp2_with fail
    rw [← HW2.out]
    refine (word_any _ _).mono ?_
    rintro e1 w3 ⟨rfl, hE3⟩
    rw [toL_ofL, hw]
    go_wp2
    refine bodyPost_ret (v := .tuple #[.string (ofL []), .int .i64 4]) (by simp [results, Try.results10, go_sem]; rfl) rfl ?_
    exact ⟨rfl, hE2.tr hE3⟩
end Go.Proofs.Ytjpcedgonjmchaa
