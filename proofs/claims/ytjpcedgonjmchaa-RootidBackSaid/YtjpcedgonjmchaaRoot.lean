/-
  Package rootid and its reference: Put. No condition but the reach of a string.
-/
import Derived.Test.YtjpcedgonjmchaaFldLaws
import Derived.Test.YtjpcedgonjmchaaName
import Derived.Test.YtjpcedgonjmchaaInv
namespace Go.Proofs.Ytjpcedgonjmchaa
open Go.RowKit

structure Root where
  t : List UInt8
  k : Int
  e : Int
  n : Int
abbrev rootCells (r : Root) : Array Value := #[.string (ofL r.t), .int .i64 r.k, .int .i64 r.e, .int .i64 r.n]
abbrev rootV (r : Root) : Value := .agg (rootCells r)
def numOk (n : Int) : Bool := decide (0 ≤ n) && decide (n ≤ 1099511627776)
def rootPut (r : Root) : List UInt8 × Int :=
  if wordL r.t = false then ([], 4)
  else if (numOk r.k && (numOk r.e && numOk r.n)) = false then ([], 3)
  else (1 :: (fText r.t ++ (vput r.k.toNat ++ (vput r.e.toNat ++ vput r.n.toNat))), 0)

theorem numOk_yes {n : Int} (h0 : 0 ≤ n) (h1 : n ≤ 1099511627776) : numOk n = true := by simp [numOk, h0, h1]
theorem numOk_neg {n : Int} (h0 : n < 0) : numOk n = false := by
  have : decide (0 ≤ n) = false := by simp; omega
  simp [numOk, this]
theorem numOk_big {n : Int} (h1 : 1099511627776 < n) : numOk n = false := by
  have : decide (n ≤ 1099511627776) = false := by simp; omega
  simp [numOk, this]
theorem numOk_cases (n : Int) : (0 ≤ n ∧ n ≤ 1099511627776) ∨ n < 0 ∨ (0 ≤ n ∧ 1099511627776 < n) := by omega

set_option maxRecDepth 100000 in
set_option maxHeartbeats 400000 in
theorem bad_any (n : Int) (w : World) : Calls Try.prog 26 #[.int .i64 n] w fun e w' => e = .returned (.bool (!numOk n)) ∧ w' = w := by
  rcases numOk_cases n with ⟨h0, h1⟩ | h | ⟨h0, h1⟩
  · have d0 : decide (n < 0) = false := by simp; omega
    have d1 : decide ((1099511627776 : Int) < n) = false := by simp; omega
    rw [numOk_yes h0 h1]
    clear h0 h1
    go_enter Try.func26, Try.ntmps26
    go_wp2
    go_ret
    exact ⟨rfl, rfl⟩
  · have d0 : decide (n < 0) = true := by simp; omega
    rw [numOk_neg h]
    clear h
    go_enter Try.func26, Try.ntmps26
    go_wp2
    go_ret
    exact ⟨rfl, rfl⟩
  · have d0 : decide (n < 0) = false := by simp; omega
    have d1 : decide ((1099511627776 : Int) < n) = true := by simp; omega
    rw [numOk_big h1]
    clear h0 h1
    go_enter Try.func26, Try.ntmps26
    go_wp2
    go_ret
    exact ⟨rfl, rfl⟩

set_option maxRecDepth 100000 in
set_option maxHeartbeats 1000000 in
theorem within_any (b : Nat) (k e n : Int) (w : World) (c0 : w.cell? ⟨b, 0, none⟩ = some (.int .i64 k)) (c1 : w.cell? ⟨b, 1, none⟩ = some (.int .i64 e)) (c2 : w.cell? ⟨b, 2, none⟩ = some (.int .i64 n)) :
    Calls Try.prog 22 #[.slice (some ⟨b, 0, none⟩) 3 3] w fun ee w' => ee = .returned (.bool (numOk k && (numOk e && numOk n))) ∧ w' = w := by
  have T : ∀ x : Int, (decide (x < 0) = false ∧ decide ((1099511627776 : Int) < x) = false ∧ numOk x = true) ∨ (decide (x < 0) = true ∧ numOk x = false) ∨ (decide (x < 0) = false ∧ decide ((1099511627776 : Int) < x) = true ∧ numOk x = false) := by
    intro x
    rcases numOk_cases x with ⟨h0, h1⟩ | h | ⟨h0, h1⟩
    · exact .inl ⟨by simp; omega, by simp; omega, numOk_yes h0 h1⟩
    · exact .inr (.inl ⟨by simp; omega, numOk_neg h⟩)
    · exact .inr (.inr ⟨by simp; omega, by simp; omega, numOk_big h1⟩)
  rcases T k with ⟨a0k, a1k, a2k⟩ | ⟨a0k, a2k⟩ | ⟨a0k, a1k, a2k⟩
  · rcases T e with ⟨a0e, a1e, a2e⟩ | ⟨a0e, a2e⟩ | ⟨a0e, a1e, a2e⟩
    · rcases T n with ⟨a0n, a1n, a2n⟩ | ⟨a0n, a2n⟩ | ⟨a0n, a1n, a2n⟩
      · rw [a2k, a2e, a2n]
        simp only [Bool.true_and]
        clear T
        go_enter Try.func22, Try.ntmps22
        go_wp2
        refine wp_loop_rounds 4 ?_
        rw [rounds_succ]
        go_wp2
        rw [rounds_succ]
        go_wp2
        rw [rounds_succ]
        go_wp2
        rw [rounds_succ]
        go_wp2
        go_ret
        exact ⟨rfl, rfl⟩
      · rw [a2k, a2e, a2n]
        simp only [Bool.true_and]
        clear T
        go_enter Try.func22, Try.ntmps22
        go_wp2
        refine wp_loop_rounds 4 ?_
        rw [rounds_succ]
        go_wp2
        rw [rounds_succ]
        go_wp2
        rw [rounds_succ]
        go_wp2
        go_ret
        exact ⟨rfl, rfl⟩
      · rw [a2k, a2e, a2n]
        simp only [Bool.true_and]
        clear T
        go_enter Try.func22, Try.ntmps22
        go_wp2
        refine wp_loop_rounds 4 ?_
        rw [rounds_succ]
        go_wp2
        rw [rounds_succ]
        go_wp2
        rw [rounds_succ]
        go_wp2
        go_ret
        exact ⟨rfl, rfl⟩
    · rw [a2k, a2e]
      simp only [Bool.true_and, Bool.false_and]
      clear T
      go_enter Try.func22, Try.ntmps22
      go_wp2
      refine wp_loop_rounds 4 ?_
      rw [rounds_succ]
      go_wp2
      rw [rounds_succ]
      go_wp2
      go_ret
      exact ⟨rfl, rfl⟩
    · rw [a2k, a2e]
      simp only [Bool.true_and, Bool.false_and]
      clear T
      go_enter Try.func22, Try.ntmps22
      go_wp2
      refine wp_loop_rounds 4 ?_
      rw [rounds_succ]
      go_wp2
      rw [rounds_succ]
      go_wp2
      go_ret
      exact ⟨rfl, rfl⟩
  · rw [a2k]
    simp only [Bool.false_and]
    clear T
    go_enter Try.func22, Try.ntmps22
    go_wp2
    refine wp_loop_rounds 4 ?_
    rw [rounds_succ]
    go_wp2
    go_ret
    exact ⟨rfl, rfl⟩
  · rw [a2k]
    simp only [Bool.false_and]
    clear T
    go_enter Try.func22, Try.ntmps22
    go_wp2
    refine wp_loop_rounds 4 ?_
    rw [rounds_succ]
    go_wp2
    go_ret
    exact ⟨rfl, rfl⟩

theorem fText_len2 (a : List UInt8) : (fText a).length ≤ a.length + 10 := by
  unfold fText; have := length_vput a.length; simp; omega
theorem rootPut_name {r : Root} (h : wordL r.t = false) : rootPut r = ([], 4) := if_pos h
theorem rootPut_limit {r : Root} (h : wordL r.t = true) (h2 : (numOk r.k && (numOk r.e && numOk r.n)) = false) : rootPut r = ([], 3) := by
  unfold rootPut; rw [if_neg (by rw [h]; simp), if_pos h2]
theorem rootPut_ok {r : Root} (h : wordL r.t = true) (h2 : (numOk r.k && (numOk r.e && numOk r.n)) = true) : rootPut r = (1 :: (fText r.t ++ (vput r.k.toNat ++ (vput r.e.toNat ++ vput r.n.toNat))), 0) := by
  unfold rootPut; rw [if_neg (by rw [h]; simp), if_neg (by rw [h2]; simp)]
theorem numOk_of {n : Int} (h : numOk n = true) : ∃ m : Nat, n = m ∧ m ≤ 1099511627776 := by
  simp [numOk] at h
  exact ⟨n.toNat, by omega, by omega⟩

set_option maxRecDepth 100000 in
set_option maxHeartbeats 1000000 in
theorem rroot_put (r : Root) (w : World) :
    Calls Try.prog 11 #[rootV r] w fun ee w' => ee = .returned (.tuple #[.string (ofL (rootPut r).1), .int .i64 (rootPut r).2]) ∧ Ext w w' := by
  obtain ⟨t, k, e, n⟩ := r
  by_cases hw : wordL t = true
  · by_cases hn : (numOk k && (numOk e && numOk n)) = true
    · rw [rootPut_ok hw hn]
      have hn' := hn
      simp only [Bool.and_eq_true] at hn'
      obtain ⟨n1, n2, n3⟩ := hn'
      obtain ⟨k, rfl, hk⟩ := numOk_of n1
      obtain ⟨e, rfl, he⟩ := numOk_of n2
      obtain ⟨n, rfl, hnn⟩ := numOk_of n3
      have u1 : IntKind.u64.wrap (k : Int) = (k : Int) := U64.wrap (by show _ < _; omega)
      have u2 : IntKind.u64.wrap (e : Int) = (e : Int) := U64.wrap (by show _ < _; omega)
      have u3 : IntKind.u64.wrap (n : Int) = (n : Int) := U64.wrap (by show _ < _; omega)
      obtain ⟨w2, hw2⟩ : ∃ w2, w2 = w.alloc (.cells (rootCells ⟨t, k, e, n⟩) 23) := ⟨_, rfl⟩
      have hE2 : Ext w w2 := by rw [hw2]; exact (Ext.rfl' _).al _
      have b2 : w2.heap[w.heap.size]? = some (.cells (rootCells ⟨t, k, e, n⟩) 23 (0, 0)) := by rw [hw2]; exact heap_alloc_new w _
      have HW2 := Lib.hid hw2; clear hw2
      have hc := fun (W : World) (h : Ext w2 W) (j : Nat) (u : Value) (hu : (rootCells ⟨t, k, e, n⟩)[j]? = some u) => ((bcell h).1 w.heap.size j (by have := HW2.out; subst this; simp)).trans ((cell_of_row w2 w.heap.size j _ _ _ b2).trans hu)
      go_enter Try.func11, Try.ntmps11
      go_wp2_with fail
      rw [← HW2.out]
      refine (rword_any _ _).mono ?_
      rintro e1 w3 ⟨rfl, hE3⟩
      rw [toL_ofL, hw]
      clear HW2
      have c1 := hc _ hE3 1 _ rfl
      have c2 := hc _ hE3 2 _ rfl
      have c3 := hc _ hE3 3 _ rfl
      go_wp2_with fail
      refine (bad_any _ _).mono ?_
      rintro e4 w4 ⟨rfl, rfl⟩
      rw [n1]
      go_wp2_with fail
      refine (bad_any _ _).mono ?_
      rintro e4 w4 ⟨rfl, rfl⟩
      rw [n2]
      go_wp2_with fail
      refine (bad_any _ _).mono ?_
      rintro e4 w4 ⟨rfl, rfl⟩
      rw [n3]
      go_wp2
      have x1 : ofL [1] ++ ofL (fText t) = ofL (1 :: fText t) := ofL_append [1] (fText t)
      have x2 : ofL (1 :: fText t) ++ ofL (vput k) = ofL (1 :: (fText t ++ vput k)) := ofL_append (1 :: fText t) (vput k)
      have x3 : ofL (1 :: (fText t ++ vput k)) ++ ofL (vput e) = ofL (1 :: (fText t ++ (vput k ++ vput e))) := by rw [ofL_append]; simp
      have x4 : ofL (1 :: (fText t ++ (vput k ++ vput e))) ++ ofL (vput n) = ofL (1 :: (fText t ++ (vput k ++ (vput e ++ vput n)))) := by rw [ofL_append]; simp
      have ht32 := (wordL_len hw).2
      have z0 := fText_len2 t
      have z1 := length_vput k
      have z2 := length_vput e
      have z3 := length_vput n
      refine wp_region_inv' (S := fun W => Ext w2 W) (by kernel_rfl) hE3.dr ?_
      refine wpU_take (i := 0) (v := .string (ofL [1])) rfl (by kernel_rfl) (by kernel_rfl) (by kernel_rfl) (grows_call 27 #[.int .i64 1] rfl (fun W => by go_simp) (fun W hS => (rbyte_any _ W).mono (by rintro e9 W9 ⟨rfl, h9⟩; exact ⟨by rfl, hS.tr h9⟩))) ?_
      refine wpU_take (i := 1) (v := .pointer (some ⟨w.heap.size, 0, none⟩)) rfl (by kernel_rfl) (by kernel_rfl) (by kernel_rfl) (grows_val rfl (fun W hS => by go_simp)) ?_
      refine wpU_take (i := 2) (v := .string (ofL t)) rfl (by kernel_rfl) (by kernel_rfl) (by kernel_rfl) (grows_val rfl (fun W hS => by have c := hc W hS 0 _ rfl; go_simp)) ?_
      refine wpU_take (i := 3) (v := .string (ofL (fText t))) rfl (by kernel_rfl) (by kernel_rfl) (by kernel_rfl) (grows_call 28 #[.string (ofL t)] rfl (fun W => by go_simp) (fun W hS => (r8Text_any _ W (by rw [size_ofL]; omega)).mono (by rintro e9 W9 ⟨rfl, h9⟩; exact ⟨by rw [toL_ofL], hS.tr h9⟩))) ?_
      refine wpU_take (i := 4) (v := .string (ofL (1 :: fText t))) rfl (by kernel_rfl) (by kernel_rfl) (by kernel_rfl) (grows_val rfl (fun W hS => by go_simp; omega)) ?_
      refine wpU_take (i := 5) (v := .pointer (some ⟨w.heap.size, 1, none⟩)) rfl (by kernel_rfl) (by kernel_rfl) (by kernel_rfl) (grows_val rfl (fun W hS => by go_simp)) ?_
      refine wpU_take (i := 6) (v := .int .i64 k) rfl (by kernel_rfl) (by kernel_rfl) (by kernel_rfl) (grows_val rfl (fun W hS => by have c := hc W hS 1 _ rfl; go_simp)) ?_
      refine wpU_take (i := 7) (v := .int .u64 k) rfl (by kernel_rfl) (by kernel_rfl) (by kernel_rfl) (grows_val rfl (fun W hS => by go_simp)) ?_
      refine wpU_take (i := 8) (v := .string (ofL (vput k))) rfl (by kernel_rfl) (by kernel_rfl) (by kernel_rfl) (grows_call 29 #[.int .u64 k] rfl (fun W => by go_simp) (fun W hS => (rvput_all k W (by show _ < _; omega)).mono (by rintro e9 W9 ⟨rfl, h9⟩; exact ⟨by rfl, hS.tr h9⟩))) ?_
      refine wpU_take (i := 9) (v := .string (ofL (1 :: (fText t ++ vput k)))) rfl (by kernel_rfl) (by kernel_rfl) (by kernel_rfl) (grows_val rfl (fun W hS => by go_simp; omega)) ?_
      refine wpU_take (i := 10) (v := .pointer (some ⟨w.heap.size, 2, none⟩)) rfl (by kernel_rfl) (by kernel_rfl) (by kernel_rfl) (grows_val rfl (fun W hS => by go_simp)) ?_
      refine wpU_take (i := 11) (v := .int .i64 e) rfl (by kernel_rfl) (by kernel_rfl) (by kernel_rfl) (grows_val rfl (fun W hS => by have c := hc W hS 2 _ rfl; go_simp)) ?_
      refine wpU_take (i := 12) (v := .int .u64 e) rfl (by kernel_rfl) (by kernel_rfl) (by kernel_rfl) (grows_val rfl (fun W hS => by go_simp)) ?_
      refine wpU_take (i := 13) (v := .string (ofL (vput e))) rfl (by kernel_rfl) (by kernel_rfl) (by kernel_rfl) (grows_call 29 #[.int .u64 e] rfl (fun W => by go_simp) (fun W hS => (rvput_all e W (by show _ < _; omega)).mono (by rintro e9 W9 ⟨rfl, h9⟩; exact ⟨by rfl, hS.tr h9⟩))) ?_
      refine wpU_take (i := 14) (v := .string (ofL (1 :: (fText t ++ (vput k ++ vput e))))) rfl (by kernel_rfl) (by kernel_rfl) (by kernel_rfl) (grows_val rfl (fun W hS => by go_simp; omega)) ?_
      refine wpU_take (i := 15) (v := .pointer (some ⟨w.heap.size, 3, none⟩)) rfl (by kernel_rfl) (by kernel_rfl) (by kernel_rfl) (grows_val rfl (fun W hS => by go_simp)) ?_
      refine wpU_take (i := 16) (v := .int .i64 n) rfl (by kernel_rfl) (by kernel_rfl) (by kernel_rfl) (grows_val rfl (fun W hS => by have c := hc W hS 3 _ rfl; go_simp)) ?_
      refine wpU_take (i := 17) (v := .int .u64 n) rfl (by kernel_rfl) (by kernel_rfl) (by kernel_rfl) (grows_val rfl (fun W hS => by go_simp)) ?_
      refine wpU_take (i := 18) (v := .string (ofL (vput n))) rfl (by kernel_rfl) (by kernel_rfl) (by kernel_rfl) (grows_call 29 #[.int .u64 n] rfl (fun W => by go_simp) (fun W hS => (rvput_all n W (by show _ < _; omega)).mono (by rintro e9 W9 ⟨rfl, h9⟩; exact ⟨by rfl, hS.tr h9⟩))) ?_
      refine wpU_take (i := 19) (v := .string (ofL (1 :: (fText t ++ (vput k ++ (vput e ++ vput n)))))) rfl (by kernel_rfl) (by kernel_rfl) (by kernel_rfl) (grows_val rfl (fun W hS => by go_simp; omega)) ?_
      refine wpU_take (i := 20) (v := .string (ofL (1 :: (fText t ++ (vput k ++ (vput e ++ vput n)))))) rfl (by kernel_rfl) (by kernel_rfl) (by kernel_rfl) (grows_val rfl (fun W hS => by go_simp)) ?_
      refine wpU_take (i := 21) (v := .int .i64 0) rfl (by kernel_rfl) (by kernel_rfl) (by kernel_rfl) (grows_val rfl (fun W hS => by go_simp)) ?_
      refine wpU_done (by kernel_rfl) (fun W hS => ?_)
      go_wp2
      refine bodyPost_ret (v := .tuple #[.string (ofL (1 :: (fText t ++ (vput k ++ (vput e ++ vput n))))), .int .i64 0]) (by simp [results, Try.results11, go_sem]) rfl ?_
      exact ⟨rfl, hE2.tr hS⟩
    · have hn : (numOk k && (numOk e && numOk n)) = false := by simpa using hn
      rw [rootPut_limit hw hn]
      have hcase : (numOk k = false) ∨ (numOk k = true ∧ numOk e = false) ∨ (numOk k = true ∧ numOk e = true ∧ numOk n = false) := by
        cases hk : numOk k
        · exact .inl rfl
        · cases he : numOk e
          · exact .inr (.inl ⟨rfl, rfl⟩)
          · rw [hk, he] at hn; exact .inr (.inr ⟨rfl, rfl, by simpa using hn⟩)
      clear hn
      obtain ⟨w2, hw2⟩ : ∃ w2, w2 = w.alloc (.cells (rootCells ⟨t, k, e, n⟩) 23) := ⟨_, rfl⟩
      have hE2 : Ext w w2 := by rw [hw2]; exact (Ext.rfl' _).al _
      have b2 : w2.heap[w.heap.size]? = some (.cells (rootCells ⟨t, k, e, n⟩) 23 (0, 0)) := by rw [hw2]; exact heap_alloc_new w _
      have HW2 := Lib.hid hw2; clear hw2
      have hc := fun (W : World) (h : Ext w2 W) (j : Nat) (u : Value) (hu : (rootCells ⟨t, k, e, n⟩)[j]? = some u) => ((bcell h).1 w.heap.size j (by have := HW2.out; subst this; simp)).trans ((cell_of_row w2 w.heap.size j _ _ _ b2).trans hu)
      rcases hcase with q1 | ⟨q1, q2⟩ | ⟨q1, q2, q3⟩
      · go_enter Try.func11, Try.ntmps11
        go_wp2_with fail
        rw [← HW2.out]
        refine (rword_any _ _).mono ?_
        rintro e1 w3 ⟨rfl, hE3⟩
        rw [toL_ofL, hw]
        clear HW2
        have c1 := hc _ hE3 1 _ rfl
        go_wp2_with fail
        refine (bad_any _ _).mono ?_
        rintro e4 w4 ⟨rfl, rfl⟩
        rw [q1]
        go_wp2
        refine bodyPost_ret (v := .tuple #[.string (ofL []), .int .i64 3]) (by simp [results, Try.results11, go_sem]; rfl) rfl ?_
        exact ⟨rfl, hE2.tr hE3⟩
      · go_enter Try.func11, Try.ntmps11
        go_wp2_with fail
        rw [← HW2.out]
        refine (rword_any _ _).mono ?_
        rintro e1 w3 ⟨rfl, hE3⟩
        rw [toL_ofL, hw]
        clear HW2
        have c1 := hc _ hE3 1 _ rfl
        have c2 := hc _ hE3 2 _ rfl
        go_wp2_with fail
        refine (bad_any _ _).mono ?_
        rintro e4 w4 ⟨rfl, rfl⟩
        rw [q1]
        go_wp2_with fail
        refine (bad_any _ _).mono ?_
        rintro e4 w4 ⟨rfl, rfl⟩
        rw [q2]
        go_wp2
        refine bodyPost_ret (v := .tuple #[.string (ofL []), .int .i64 3]) (by simp [results, Try.results11, go_sem]; rfl) rfl ?_
        exact ⟨rfl, hE2.tr hE3⟩
      · go_enter Try.func11, Try.ntmps11
        go_wp2_with fail
        rw [← HW2.out]
        refine (rword_any _ _).mono ?_
        rintro e1 w3 ⟨rfl, hE3⟩
        rw [toL_ofL, hw]
        clear HW2
        have c1 := hc _ hE3 1 _ rfl
        have c2 := hc _ hE3 2 _ rfl
        have c3 := hc _ hE3 3 _ rfl
        go_wp2_with fail
        refine (bad_any _ _).mono ?_
        rintro e4 w4 ⟨rfl, rfl⟩
        rw [q1]
        go_wp2_with fail
        refine (bad_any _ _).mono ?_
        rintro e4 w4 ⟨rfl, rfl⟩
        rw [q2]
        go_wp2_with fail
        refine (bad_any _ _).mono ?_
        rintro e4 w4 ⟨rfl, rfl⟩
        rw [q3]
        go_wp2
        refine bodyPost_ret (v := .tuple #[.string (ofL []), .int .i64 3]) (by simp [results, Try.results11, go_sem]; rfl) rfl ?_
        exact ⟨rfl, hE2.tr hE3⟩
  · have hw : wordL t = false := by simpa using hw
    rw [rootPut_name hw]
    obtain ⟨w2, hw2⟩ : ∃ w2, w2 = w.alloc (.cells (rootCells ⟨t, k, e, n⟩) 23) := ⟨_, rfl⟩
    have hE2 : Ext w w2 := by rw [hw2]; exact (Ext.rfl' _).al _
    have b2 : w2.heap[w.heap.size]? = some (.cells (rootCells ⟨t, k, e, n⟩) 23 (0, 0)) := by rw [hw2]; exact heap_alloc_new w _
    have HW2 := Lib.hid hw2; clear hw2
    have hc := fun (W : World) (h : Ext w2 W) (j : Nat) (u : Value) (hu : (rootCells ⟨t, k, e, n⟩)[j]? = some u) => ((bcell h).1 w.heap.size j (by have := HW2.out; subst this; simp)).trans ((cell_of_row w2 w.heap.size j _ _ _ b2).trans hu)
    go_enter Try.func11, Try.ntmps11
    go_wp2_with fail
    rw [← HW2.out]
    refine (rword_any _ _).mono ?_
    rintro e1 w3 ⟨rfl, hE3⟩
    rw [toL_ofL, hw]
    clear HW2
    go_wp2
    refine bodyPost_ret (v := .tuple #[.string (ofL []), .int .i64 4]) (by simp [results, Try.results11, go_sem]; rfl) rfl ?_
    exact ⟨rfl, hE2.tr hE3⟩

theorem root_box (w : World) (r : Root) : ∃ w2, w2 = w.alloc (.cells (rootCells r) 23) ∧ Ext w w2 ∧ w2.heap.size = w.heap.size + 1 ∧
    ∀ (W : World), Ext w2 W → ∀ (j : Nat) (u : Value), (rootCells r)[j]? = some u → W.cell? ⟨w.heap.size, j, none⟩ = some u :=
  ⟨_, rfl, (Ext.rfl' _).al _, by simp, fun W h j u hu => ((bcell h).1 w.heap.size j (by simp)).trans ((cell_of_row _ w.heap.size j _ _ _ (heap_alloc_new w _)).trans hu)⟩

end Go.Proofs.Ytjpcedgonjmchaa
