/-
  Package field's statements: one call of both readers, by kind. Condition: what is left is at most 1000000 bytes.
-/
import Derived.Test.YteclfeeeaokddaaFldLaws
namespace Go.Proofs.Yteclfeeeaokddaa
open Go.RowKit

set_option maxRecDepth 100000 in
set_option maxHeartbeats 2000000 in
theorem does_byte (g : Nat) (x : RS) (n : Nat) (m er : Int) (w : World) (h : Rdr w g true x.1 x.2) (hs : x.1.length ≤ 1000000) :
    Calls Try.prog 23 #[.pointer (some ⟨g, 0, none⟩), rv x, av ⟨0, n, m, er⟩] w fun ee w' => ee = .returned (.tuple #[rv (rByte x).2, .bool true]) ∧ Rdr w' g true (rByte x).2.1 (rByte x).2.2 ∧ Only g w w' := by
  have hg := h.lt
  obtain ⟨w3, hw3, hE3, b0, ba, b2⟩ := aboxes w x ⟨0, n, m, er⟩ ([], 0)
  have h3 := h.ext hE3
  have hz3 := b2.lt
  have HW3 := Lib.hid hw3; clear hw3
  have aI := ba 0 _ rfl
  obtain ⟨q, hq⟩ : ∃ q, (rByte x) = q := ⟨_, rfl⟩
  rw [hq]
  have HQ := Lib.hid hq; clear hq
  obtain ⟨c, y⟩ := q
  go_enter Try.func23, Try.ntmps23
  go_wp2_with fail
  rw [show (⟨#[]⟩ : ByteArray) = ofL [] from rfl, ← HW3.out]
  refine (r8byte x _ hs).mono ?_
  rintro e w4 ⟨rfl, hE4⟩
  rw [HQ.out]
  obtain ⟨w5, hw5⟩ : ∃ w5, w5 = w4.alloc (.cells #[.string (ofL y.1), .int .i64 y.2] 37) := ⟨_, rfl⟩
  have hE5 : Ext w4 w5 := by rw [hw5]; exact (Ext.rfl' _).al _
  have b5 : RBx w5 w4.heap.size y := by rw [hw5]; exact heap_alloc_new w4 _
  have HW5 := Lib.hid hw5; clear hw5
  have b6 := (b2.ext hE4).ext hE5
  have h5 := (h3.ext hE4).ext hE5
  have l5 := b5.lt
  have hz4 := hE4.size
  have hz5 := hE5.size
  clear HW3
  go_wp2
  rw [← HW5.out]
  clear HW5
  have a5 := ((bcell (hE4.tr hE5)).1 _ _ (by omega)).trans aI
  obtain ⟨y0, y1, _, _⟩ := b5.cells
  obtain ⟨t0, t1, t2, t3⟩ := b6.cells
  have E5 : Ext w w5 := (hE3.tr hE4).tr hE5
  have ne1 : w4.heap.size ≠ w.heap.size + 1 + 1 := by omega
  have ne2 : w4.heap.size ≠ g := by omega
  have ne3 : w.heap.size + 1 + 1 ≠ g := by omega
  have ne4 : w.heap.size + 1 ≠ w.heap.size + 1 + 1 := by omega
  have ne5 : w.heap.size + 1 ≠ g := by omega
  clear aI ba b0 hE3 hE4 hE5 h3
  go_region_held3 (fun w' => w'.cell? ⟨w4.heap.size, 0, none⟩ = some (.string (ofL y.1)) ∧ w'.cell? ⟨w4.heap.size, 1, none⟩ = some (.int .i64 y.2) ∧ w'.cell? ⟨w.heap.size + 1, 0, none⟩ = some (.int .i64 0))
    (first | exact ⟨y0, y1, a5⟩ | exact ⟨k0, k1, k2⟩ | exact ⟨cell_set_far (cell_set_far y0 ne1 _) ne1 _, cell_set_far (cell_set_far y1 ne1 _) ne1 _, cell_set_far (cell_set_far a5 ne4 _) ne4 _⟩ | exact ⟨cell_set_far (cell_set_far k0 ne1 _) ne1 _, cell_set_far (cell_set_far k1 ne1 _) ne1 _, cell_set_far (cell_set_far k2 ne4 _) ne4 _⟩)
    (first | (go_at_call 34; refine (byte_any g x _ (by first | exact h5 | exact (h5.stNew (by simp; omega) _).stNew (by simp; omega) _) hs).mono ?_; rintro e w6 ⟨rfl, h6, hO6⟩; rw [HQ.out] at h6 ⊢; have k0 := hO6.cellAt (b := w4.heap.size) (i := 0) (v := .string (ofL y.1)) (by first | exact y0 | exact cell_set_far (cell_set_far y0 ne1 _) ne1 _) ne2; have k1 := hO6.cellAt (b := w4.heap.size) (i := 1) (v := .int .i64 y.2) (by first | exact y1 | exact cell_set_far (cell_set_far y1 ne1 _) ne1 _) ne2; have k2 := hO6.cellAt (b := w.heap.size + 1) (i := 0) (v := .int .i64 0) (by first | exact a5 | exact cell_set_far (cell_set_far a5 ne4 _) ne4 _) ne5; obtain ⟨z0, q0⟩ := hO6.both (by first | exact ⟨t0, t2⟩ | exact ⟨(set2 t0 t1 _ _).1, by simp [go_sem, t2]⟩) ne3; obtain ⟨z1, q1⟩ := hO6.both (by first | exact ⟨t1, t3⟩ | exact ⟨(set2 t0 t1 _ _).2, by simp [go_sem, t3]⟩) ne3))
  all_goals
    go_wp2
    obtain ⟨f2, f1⟩ := set2 z0 z1 (.string (ofL y.1)) (.int .i64 y.2)
    have f0 := cell_set_same z0 (.string (ofL y.1))
    refine bodyPost_ret (v := .tuple #[rv y, .bool true]) (by first | (simp [results, Try.results23, go_sem, f0, f1]; done) | (simp [results, Try.results23, go_sem, z0, z1]; done)) rfl ?_
    first
      | exact ⟨rfl, (h6.stNew (by simp; omega) _).stNew (by simp; omega) _, (((Only.of E5.dr).tr hO6).stNew (by simp <;> omega) _).stNew (by simp <;> omega) _⟩
      | exact ⟨rfl, h6, (Only.of ((E5.dr.st (by simp <;> omega) _).st (by simp <;> omega) _)).tr hO6⟩

set_option maxRecDepth 100000 in
set_option maxHeartbeats 2000000 in
theorem does_num (g : Nat) (x : RS) (n : Nat) (m er : Int) (w : World) (h : Rdr w g true x.1 x.2) (hs : x.1.length ≤ 1000000) :
    Calls Try.prog 23 #[.pointer (some ⟨g, 0, none⟩), rv x, av ⟨1, n, m, er⟩] w fun ee w' => ee = .returned (.tuple #[rv (rNum x n).2, .bool true]) ∧ Rdr w' g true (rNum x n).2.1 (rNum x n).2.2 ∧ Only g w w' := by
  have hg := h.lt
  obtain ⟨w3, hw3, hE3, b0, ba, b2⟩ := aboxes w x ⟨1, n, m, er⟩ ([], 0)
  have h3 := h.ext hE3
  have hz3 := b2.lt
  have HW3 := Lib.hid hw3; clear hw3
  have aI := ba 1 _ rfl
  obtain ⟨q, hq⟩ : ∃ q, (rNum x n) = q := ⟨_, rfl⟩
  rw [hq]
  have HQ := Lib.hid hq; clear hq
  obtain ⟨c, y⟩ := q
  go_enter Try.func23, Try.ntmps23
  go_wp2_with fail
  rw [show (⟨#[]⟩ : ByteArray) = ofL [] from rfl, ← HW3.out]
  refine (r8num x n _ hs).mono ?_
  rintro e w4 ⟨rfl, hE4⟩
  rw [HQ.out]
  obtain ⟨w5, hw5⟩ : ∃ w5, w5 = w4.alloc (.cells #[.string (ofL y.1), .int .i64 y.2] 37) := ⟨_, rfl⟩
  have hE5 : Ext w4 w5 := by rw [hw5]; exact (Ext.rfl' _).al _
  have b5 : RBx w5 w4.heap.size y := by rw [hw5]; exact heap_alloc_new w4 _
  have HW5 := Lib.hid hw5; clear hw5
  have b6 := (b2.ext hE4).ext hE5
  have h5 := (h3.ext hE4).ext hE5
  have l5 := b5.lt
  have hz4 := hE4.size
  have hz5 := hE5.size
  clear HW3
  go_wp2
  rw [← HW5.out]
  clear HW5
  have a5 := ((bcell (hE4.tr hE5)).1 _ _ (by omega)).trans aI
  obtain ⟨y0, y1, _, _⟩ := b5.cells
  obtain ⟨t0, t1, t2, t3⟩ := b6.cells
  have E5 : Ext w w5 := (hE3.tr hE4).tr hE5
  have ne1 : w4.heap.size ≠ w.heap.size + 1 + 1 := by omega
  have ne2 : w4.heap.size ≠ g := by omega
  have ne3 : w.heap.size + 1 + 1 ≠ g := by omega
  have ne4 : w.heap.size + 1 ≠ w.heap.size + 1 + 1 := by omega
  have ne5 : w.heap.size + 1 ≠ g := by omega
  clear aI ba b0 hE3 hE4 hE5 h3
  go_region_held3 (fun w' => w'.cell? ⟨w4.heap.size, 0, none⟩ = some (.string (ofL y.1)) ∧ w'.cell? ⟨w4.heap.size, 1, none⟩ = some (.int .i64 y.2) ∧ w'.cell? ⟨w.heap.size + 1, 1, none⟩ = some (.int .u64 n))
    (first | exact ⟨y0, y1, a5⟩ | exact ⟨k0, k1, k2⟩ | exact ⟨cell_set_far (cell_set_far y0 ne1 _) ne1 _, cell_set_far (cell_set_far y1 ne1 _) ne1 _, cell_set_far (cell_set_far a5 ne4 _) ne4 _⟩ | exact ⟨cell_set_far (cell_set_far k0 ne1 _) ne1 _, cell_set_far (cell_set_far k1 ne1 _) ne1 _, cell_set_far (cell_set_far k2 ne4 _) ne4 _⟩)
    (first | (go_at_call 27; refine (num_any g x n _ (by first | exact h5 | exact (h5.stNew (by simp; omega) _).stNew (by simp; omega) _) hs).mono ?_; rintro e w6 ⟨rfl, h6, hO6⟩; rw [HQ.out] at h6 ⊢; have k0 := hO6.cellAt (b := w4.heap.size) (i := 0) (v := .string (ofL y.1)) (by first | exact y0 | exact cell_set_far (cell_set_far y0 ne1 _) ne1 _) ne2; have k1 := hO6.cellAt (b := w4.heap.size) (i := 1) (v := .int .i64 y.2) (by first | exact y1 | exact cell_set_far (cell_set_far y1 ne1 _) ne1 _) ne2; have k2 := hO6.cellAt (b := w.heap.size + 1) (i := 1) (v := .int .u64 n) (by first | exact a5 | exact cell_set_far (cell_set_far a5 ne4 _) ne4 _) ne5; obtain ⟨z0, q0⟩ := hO6.both (by first | exact ⟨t0, t2⟩ | exact ⟨(set2 t0 t1 _ _).1, by simp [go_sem, t2]⟩) ne3; obtain ⟨z1, q1⟩ := hO6.both (by first | exact ⟨t1, t3⟩ | exact ⟨(set2 t0 t1 _ _).2, by simp [go_sem, t3]⟩) ne3))
  all_goals
    go_wp2
    obtain ⟨f2, f1⟩ := set2 z0 z1 (.string (ofL y.1)) (.int .i64 y.2)
    have f0 := cell_set_same z0 (.string (ofL y.1))
    refine bodyPost_ret (v := .tuple #[rv y, .bool true]) (by first | (simp [results, Try.results23, go_sem, f0, f1]; done) | (simp [results, Try.results23, go_sem, z0, z1]; done)) rfl ?_
    first
      | exact ⟨rfl, (h6.stNew (by simp; omega) _).stNew (by simp; omega) _, (((Only.of E5.dr).tr hO6).stNew (by simp <;> omega) _).stNew (by simp <;> omega) _⟩
      | exact ⟨rfl, h6, (Only.of ((E5.dr.st (by simp <;> omega) _).st (by simp <;> omega) _)).tr hO6⟩

set_option maxRecDepth 100000 in
set_option maxHeartbeats 2000000 in
theorem does_text (g : Nat) (x : RS) (n : Nat) (m er : Int) (w : World) (h : Rdr w g true x.1 x.2) (hs : x.1.length ≤ 1000000) (hm : m ≤ 9223372036854775807) :
    Calls Try.prog 23 #[.pointer (some ⟨g, 0, none⟩), rv x, av ⟨2, n, m, er⟩] w fun ee w' => ee = .returned (.tuple #[rv (rText x m).2, .bool true]) ∧ Rdr w' g true (rText x m).2.1 (rText x m).2.2 ∧ Only g w w' := by
  have hg := h.lt
  obtain ⟨w3, hw3, hE3, b0, ba, b2⟩ := aboxes w x ⟨2, n, m, er⟩ ([], 0)
  have h3 := h.ext hE3
  have hz3 := b2.lt
  have HW3 := Lib.hid hw3; clear hw3
  have aI := ba 2 _ rfl
  obtain ⟨q, hq⟩ : ∃ q, (rText x m) = q := ⟨_, rfl⟩
  rw [hq]
  have HQ := Lib.hid hq; clear hq
  obtain ⟨c, y⟩ := q
  go_enter Try.func23, Try.ntmps23
  go_wp2_with fail
  rw [show (⟨#[]⟩ : ByteArray) = ofL [] from rfl, ← HW3.out]
  refine (r8text x m _ hs hm).mono ?_
  rintro e w4 ⟨rfl, hE4⟩
  rw [HQ.out]
  obtain ⟨w5, hw5⟩ : ∃ w5, w5 = w4.alloc (.cells #[.string (ofL y.1), .int .i64 y.2] 37) := ⟨_, rfl⟩
  have hE5 : Ext w4 w5 := by rw [hw5]; exact (Ext.rfl' _).al _
  have b5 : RBx w5 w4.heap.size y := by rw [hw5]; exact heap_alloc_new w4 _
  have HW5 := Lib.hid hw5; clear hw5
  have b6 := (b2.ext hE4).ext hE5
  have h5 := (h3.ext hE4).ext hE5
  have l5 := b5.lt
  have hz4 := hE4.size
  have hz5 := hE5.size
  clear HW3
  go_wp2
  rw [← HW5.out]
  clear HW5
  have a5 := ((bcell (hE4.tr hE5)).1 _ _ (by omega)).trans aI
  obtain ⟨y0, y1, _, _⟩ := b5.cells
  obtain ⟨t0, t1, t2, t3⟩ := b6.cells
  have E5 : Ext w w5 := (hE3.tr hE4).tr hE5
  have ne1 : w4.heap.size ≠ w.heap.size + 1 + 1 := by omega
  have ne2 : w4.heap.size ≠ g := by omega
  have ne3 : w.heap.size + 1 + 1 ≠ g := by omega
  have ne4 : w.heap.size + 1 ≠ w.heap.size + 1 + 1 := by omega
  have ne5 : w.heap.size + 1 ≠ g := by omega
  clear aI ba b0 hE3 hE4 hE5 h3
  go_region_held3 (fun w' => w'.cell? ⟨w4.heap.size, 0, none⟩ = some (.string (ofL y.1)) ∧ w'.cell? ⟨w4.heap.size, 1, none⟩ = some (.int .i64 y.2) ∧ w'.cell? ⟨w.heap.size + 1, 2, none⟩ = some (.int .i64 m))
    (first | exact ⟨y0, y1, a5⟩ | exact ⟨k0, k1, k2⟩ | exact ⟨cell_set_far (cell_set_far y0 ne1 _) ne1 _, cell_set_far (cell_set_far y1 ne1 _) ne1 _, cell_set_far (cell_set_far a5 ne4 _) ne4 _⟩ | exact ⟨cell_set_far (cell_set_far k0 ne1 _) ne1 _, cell_set_far (cell_set_far k1 ne1 _) ne1 _, cell_set_far (cell_set_far k2 ne4 _) ne4 _⟩)
    (first | (go_at_call 29; refine (text_any g x m _ (by first | exact h5 | exact (h5.stNew (by simp; omega) _).stNew (by simp; omega) _) hs hm).mono ?_; rintro e w6 ⟨rfl, h6, hO6⟩; rw [HQ.out] at h6 ⊢; have k0 := hO6.cellAt (b := w4.heap.size) (i := 0) (v := .string (ofL y.1)) (by first | exact y0 | exact cell_set_far (cell_set_far y0 ne1 _) ne1 _) ne2; have k1 := hO6.cellAt (b := w4.heap.size) (i := 1) (v := .int .i64 y.2) (by first | exact y1 | exact cell_set_far (cell_set_far y1 ne1 _) ne1 _) ne2; have k2 := hO6.cellAt (b := w.heap.size + 1) (i := 2) (v := .int .i64 m) (by first | exact a5 | exact cell_set_far (cell_set_far a5 ne4 _) ne4 _) ne5; obtain ⟨z0, q0⟩ := hO6.both (by first | exact ⟨t0, t2⟩ | exact ⟨(set2 t0 t1 _ _).1, by simp [go_sem, t2]⟩) ne3; obtain ⟨z1, q1⟩ := hO6.both (by first | exact ⟨t1, t3⟩ | exact ⟨(set2 t0 t1 _ _).2, by simp [go_sem, t3]⟩) ne3))
  all_goals
    go_wp2
    obtain ⟨f2, f1⟩ := set2 z0 z1 (.string (ofL y.1)) (.int .i64 y.2)
    have f0 := cell_set_same z0 (.string (ofL y.1))
    refine bodyPost_ret (v := .tuple #[rv y, .bool true]) (by first | (simp [results, Try.results23, go_sem, f0, f1]; done) | (simp [results, Try.results23, go_sem, z0, z1]; done)) rfl ?_
    first
      | exact ⟨rfl, (h6.stNew (by simp; omega) _).stNew (by simp; omega) _, (((Only.of E5.dr).tr hO6).stNew (by simp <;> omega) _).stNew (by simp <;> omega) _⟩
      | exact ⟨rfl, h6, (Only.of ((E5.dr.st (by simp <;> omega) _).st (by simp <;> omega) _)).tr hO6⟩

set_option maxRecDepth 100000 in
set_option maxHeartbeats 2000000 in
theorem does_end (g : Nat) (x : RS) (n : Nat) (m er : Int) (w : World) (h : Rdr w g true x.1 x.2) (hs : x.1.length ≤ 1000000) :
    Calls Try.prog 23 #[.pointer (some ⟨g, 0, none⟩), rv x, av ⟨4, n, m, er⟩] w fun ee w' => ee = .returned (.tuple #[rv (rEnd x), .bool true]) ∧ Rdr w' g true (rEnd x).1 (rEnd x).2 ∧ Only g w w' := by
  have hg := h.lt
  obtain ⟨w3, hw3, hE3, b0, ba, b2⟩ := aboxes w x ⟨4, n, m, er⟩ ([], 0)
  have h3 := h.ext hE3
  have hz3 := b2.lt
  have HW3 := Lib.hid hw3; clear hw3
  have aI := ba 0 _ rfl
  obtain ⟨q, hq⟩ : ∃ q, (rEnd x) = q := ⟨_, rfl⟩
  rw [hq]
  have HQ := Lib.hid hq; clear hq
  obtain ⟨y, hy⟩ : ∃ y, y = q := ⟨_, rfl⟩
  subst hy
  go_enter Try.func23, Try.ntmps23
  go_wp2_with fail
  rw [show (⟨#[]⟩ : ByteArray) = ofL [] from rfl, ← HW3.out]
  refine (r8end x _).mono ?_
  rintro e w4 ⟨rfl, hE4⟩
  rw [HQ.out]
  obtain ⟨w5, hw5⟩ : ∃ w5, w5 = w4.alloc (.cells #[.string (ofL y.1), .int .i64 y.2] 37) := ⟨_, rfl⟩
  have hE5 : Ext w4 w5 := by rw [hw5]; exact (Ext.rfl' _).al _
  have b5 : RBx w5 w4.heap.size y := by rw [hw5]; exact heap_alloc_new w4 _
  have HW5 := Lib.hid hw5; clear hw5
  have b6 := (b2.ext hE4).ext hE5
  have h5 := (h3.ext hE4).ext hE5
  have l5 := b5.lt
  have hz4 := hE4.size
  have hz5 := hE5.size
  clear HW3
  go_wp2
  rw [← HW5.out]
  clear HW5
  have a5 := ((bcell (hE4.tr hE5)).1 _ _ (by omega)).trans aI
  obtain ⟨y0, y1, _, _⟩ := b5.cells
  obtain ⟨t0, t1, t2, t3⟩ := b6.cells
  have E5 : Ext w w5 := (hE3.tr hE4).tr hE5
  have ne1 : w4.heap.size ≠ w.heap.size + 1 + 1 := by omega
  have ne2 : w4.heap.size ≠ g := by omega
  have ne3 : w.heap.size + 1 + 1 ≠ g := by omega
  have ne4 : w.heap.size + 1 ≠ w.heap.size + 1 + 1 := by omega
  have ne5 : w.heap.size + 1 ≠ g := by omega
  clear aI ba b0 hE3 hE4 hE5 h3
  go_region_held3 (fun w' => w'.cell? ⟨w4.heap.size, 0, none⟩ = some (.string (ofL y.1)) ∧ w'.cell? ⟨w4.heap.size, 1, none⟩ = some (.int .i64 y.2) ∧ w'.cell? ⟨w.heap.size + 1, 0, none⟩ = some (.int .i64 4))
    (first | exact ⟨y0, y1, a5⟩ | exact ⟨k0, k1, k2⟩ | exact ⟨cell_set_far (cell_set_far y0 ne1 _) ne1 _, cell_set_far (cell_set_far y1 ne1 _) ne1 _, cell_set_far (cell_set_far a5 ne4 _) ne4 _⟩ | exact ⟨cell_set_far (cell_set_far k0 ne1 _) ne1 _, cell_set_far (cell_set_far k1 ne1 _) ne1 _, cell_set_far (cell_set_far k2 ne4 _) ne4 _⟩)
    (first | (go_at_call 28; refine (end_any g x _ (by first | exact h5 | exact (h5.stNew (by simp; omega) _).stNew (by simp; omega) _) hs).mono ?_; rintro e w6 ⟨rfl, h6, hO6⟩; rw [HQ.out] at h6 ⊢; have k0 := hO6.cellAt (b := w4.heap.size) (i := 0) (v := .string (ofL y.1)) (by first | exact y0 | exact cell_set_far (cell_set_far y0 ne1 _) ne1 _) ne2; have k1 := hO6.cellAt (b := w4.heap.size) (i := 1) (v := .int .i64 y.2) (by first | exact y1 | exact cell_set_far (cell_set_far y1 ne1 _) ne1 _) ne2; have k2 := hO6.cellAt (b := w.heap.size + 1) (i := 0) (v := .int .i64 4) (by first | exact a5 | exact cell_set_far (cell_set_far a5 ne4 _) ne4 _) ne5; obtain ⟨z0, q0⟩ := hO6.both (by first | exact ⟨t0, t2⟩ | exact ⟨(set2 t0 t1 _ _).1, by simp [go_sem, t2]⟩) ne3; obtain ⟨z1, q1⟩ := hO6.both (by first | exact ⟨t1, t3⟩ | exact ⟨(set2 t0 t1 _ _).2, by simp [go_sem, t3]⟩) ne3))
  all_goals
    go_wp2
    obtain ⟨f2, f1⟩ := set2 z0 z1 (.string (ofL y.1)) (.int .i64 y.2)
    have f0 := cell_set_same z0 (.string (ofL y.1))
    refine bodyPost_ret (v := .tuple #[rv y, .bool true]) (by first | (simp [results, Try.results23, go_sem, f0, f1]; done) | (simp [results, Try.results23, go_sem, z0, z1]; done)) rfl ?_
    first
      | exact ⟨rfl, (h6.stNew (by simp; omega) _).stNew (by simp; omega) _, (((Only.of E5.dr).tr hO6).stNew (by simp <;> omega) _).stNew (by simp <;> omega) _⟩
      | exact ⟨rfl, h6, (Only.of ((E5.dr.st (by simp <;> omega) _).st (by simp <;> omega) _)).tr hO6⟩

set_option maxRecDepth 100000 in
set_option maxHeartbeats 2000000 in
theorem does_fail (g : Nat) (x : RS) (n : Nat) (m er : Int) (w : World) (h : Rdr w g true x.1 x.2) :
    Calls Try.prog 23 #[.pointer (some ⟨g, 0, none⟩), rv x, av ⟨3, n, m, er⟩] w fun ee w' => ee = .returned (.tuple #[rv (rFail x er), .bool true]) ∧ Rdr w' g true (rFail x er).1 (rFail x er).2 ∧ Only g w w' := by
  have hg := h.lt
  obtain ⟨w3, hw3, hE3, b0, ba, b2⟩ := aboxes w x ⟨3, n, m, er⟩ ([], 0)
  have h3 := h.ext hE3
  have hz3 := b2.lt
  have HW3 := Lib.hid hw3; clear hw3
  have aI := ba 3 _ rfl
  go_enter Try.func23, Try.ntmps23
  go_wp2_with fail
  rw [show (⟨#[]⟩ : ByteArray) = ofL [] from rfl, ← HW3.out]
  refine (fail_any g x er _ h3).mono ?_
  rintro e w4 ⟨rfl, h4, hO4⟩
  obtain ⟨i0, i1, i2, i3⟩ := b0.cells
  have j0 := hO4.cellAt i0 (by omega)
  have j1 := hO4.cellAt i1 (by omega)
  have j2 := hO4.cellAt aI (by omega)
  obtain ⟨t0, t1, t2, t3⟩ := b2.cells
  obtain ⟨p0, q0⟩ := hO4.both ⟨t0, t2⟩ (by omega)
  obtain ⟨p1, q1⟩ := hO4.both ⟨t1, t3⟩ (by omega)
  have hz4 := hO4.size
  clear HW3 i0 i1 i2 i3 t0 t1 t2 t3 aI
  go_wp2_with fail
  refine (r8fail x er _).mono ?_
  rintro e w5 ⟨rfl, hE5⟩
  have z0 := ((bcell hE5).1 _ _ (by omega)).trans p0
  have z1 := ((bcell hE5).1 _ _ (by omega)).trans p1
  have z2 := ((bcell hE5).2 _ _ (by omega)).trans q0
  have z3 := ((bcell hE5).2 _ _ (by omega)).trans q1
  have h5 := h4.ext hE5
  clear p0 p1 q0 q1 j0 j1 j2
  go_wp2
  obtain ⟨f2, f1⟩ := set2 z0 z1 (.string (ofL (rFail x er).1)) (.int .i64 (rFail x er).2)
  have f0 := cell_set_same z0 (.string (ofL (rFail x er).1))
  refine bodyPost_ret (v := .tuple #[rv (rFail x er), .bool true]) (by simp [results, Try.results23, go_sem, f0, f1, f2]) rfl ?_
  exact ⟨rfl, (h5.stNew (by simp; omega) _).stNew (by simp; omega) _, (((Only.of hE3).tr hO4).ext hE5 |>.stNew (by simp <;> omega) _).stNew (by simp <;> omega) _⟩
end Go.Proofs.Yteclfeeeaokddaa
