/-
  Package field's reader: what calls of a nil reader and of one that was not made tell. No condition.
-/
import Derived.Test.YteclfeeeaokddaaFldLaws
namespace Go.Proofs.Yteclfeeeaokddaa
open Go.RowKit

theorem nil_left (w : World) : Calls Try.prog 24 #[.pointer none] w fun e w' => e = .returned (.int .i64 0) ∧ w' = w := by
  go_enter Try.func24, Try.ntmps24
  go_wp2
  go_ret
  exact ⟨rfl, rfl⟩
theorem nil_err (w : World) : Calls Try.prog 25 #[.pointer none] w fun e w' => e = .returned (.int .i64 21) ∧ w' = w := by
  go_enter Try.func25, Try.ntmps25
  go_wp2
  go_ret
  exact ⟨rfl, rfl⟩
set_option maxRecDepth 100000 in
set_option maxHeartbeats 1000000 in
theorem nil_read (F : FuncId) (caps : Array Value) (w : World) :
    Calls Try.prog 47 #[.pointer none, .func (.func F) #[] caps] w fun e w' => e = .returned (.tuple #[]) ∧ Ext w w' := by
  have hmf := Try.mkfn
  go_enter_defers Try.func47, Try.ntmps47
  go_wp2
  simp [bodyPostD, Leaves, results, Try.results47]
  exact (Ext.rfl' w).al _
set_option maxRecDepth 100000 in
set_option maxHeartbeats 1000000 in
theorem nil_num (n : Nat) (w : World) : Calls Try.prog 27 #[.pointer none, .int .u64 n] w fun e w' => e = .returned (.int .u64 0) ∧ Ext w w' := by
  have hmf := Try.mkfn
  obtain ⟨w3, hw3, hE3, p0, p1, p2, q2, hz⟩ := boxes3 w (.pointer none) (.int .u64 (n : Int)) (.int .u64 0) 33 40 40
  have HW3 := Lib.hid hw3; clear hw3
  go_enter Try.func27, Try.ntmps27
  go_wp2_with fail
  rw [← HW3.out]
  refine (nil_read 48 _ w3).mono ?_
  rintro e w4 ⟨rfl, hE⟩
  have p2' := ((bcell hE).1 _ _ (by omega)).trans p2
  have q2' := ((bcell hE).2 _ _ (by omega)).trans q2
  go_wp2
  have fin := cell_set_same p2' (.int .u64 0)
  refine bodyPost_ret (v := .int .u64 0) (by simp [results, Try.results27, go_sem, fin]) rfl ?_
  exact ⟨rfl, (hE3.tr hE).st (by simp; omega) _⟩
theorem zero_fail (g : Nat) (s : List UInt8) (e x : Int) (w : World) (h : Rdr w g false s e) : Calls Try.prog 26 #[.pointer (some ⟨g, 0, none⟩), .int .i64 x] w fun e w' => e = .returned (.tuple #[]) ∧ w' = w := by
  obtain ⟨c0, c1, c2, f0, f1, f2⟩ := h.cells
  go_enter Try.func26, Try.ntmps26
  go_wp2
  first | go_end0 | refine bodyPost_ret (results_none rfl _ _ _) rfl ?_
  exact ⟨rfl, rfl⟩
theorem zero_err (g : Nat) (s : List UInt8) (e : Int) (w : World) (h : Rdr w g false s e) : Calls Try.prog 25 #[.pointer (some ⟨g, 0, none⟩)] w fun e w' => e = .returned (.int .i64 21) ∧ w' = w := by
  obtain ⟨c0, c1, c2, f0, f1, f2⟩ := h.cells
  go_enter Try.func25, Try.ntmps25
  go_wp2
  go_ret
  exact ⟨rfl, rfl⟩
theorem zero_end (g : Nat) (w : World) (h : Rdr w g false [] 0) : Calls Try.prog 28 #[.pointer (some ⟨g, 0, none⟩)] w fun e w' => e = .returned (.int .i64 21) ∧ w' = w := by
  go_enter Try.func28, Try.ntmps28
  go_wp2_with fail
  refine (left_any g false [] 0 _ h).mono ?_
  rintro e w1 ⟨rfl, rfl⟩
  go_wp2_with fail
  refine (zero_err g [] 0 _ h).mono ?_
  rintro e w3 ⟨rfl, rfl⟩
  go_wp2
  go_ret
  exact ⟨rfl, rfl⟩
set_option maxRecDepth 100000 in
set_option maxHeartbeats 1000000 in
theorem zero_read (g : Nat) (s : List UInt8) (e : Int) (F : FuncId) (caps : Array Value) (w : World) (h : Rdr w g false s e) :
    Calls Try.prog 47 #[.pointer (some ⟨g, 0, none⟩), .func (.func F) #[] caps] w fun e w' => e = .returned (.tuple #[]) ∧ Ext w w' := by
  have hg := h.lt
  obtain ⟨c0, c1, c2, f0, f1, f2⟩ := (h.ext ((Ext.rfl' w).al (.cells #[.pointer (some ⟨g, 0, none⟩)] 33))).cells
  have hmf := Try.mkfn
  go_enter_defers Try.func47, Try.ntmps47
  go_wp2
  simp [bodyPostD, Leaves, results, Try.results47]
  exact (Ext.rfl' w).al _
set_option maxRecDepth 100000 in
set_option maxHeartbeats 1000000 in
theorem zero_text (g : Nat) (s : List UInt8) (e m : Int) (w : World) (h : Rdr w g false s e) : Calls Try.prog 29 #[.pointer (some ⟨g, 0, none⟩), .int .i64 m] w fun e w' => e = .returned (.string ⟨#[]⟩) ∧ Ext w w' := by
  have hmf := Try.mkfn
  obtain ⟨w3, hw3, hE3, p0, p1, p2, q2, hz⟩ := boxes3 w (.pointer (some ⟨g, 0, none⟩)) (.int .i64 m) (.string (ofL [])) 33 3 9
  have HW3 := Lib.hid hw3; clear hw3
  go_enter Try.func29, Try.ntmps29
  go_wp2_with fail
  rw [show (⟨#[]⟩ : ByteArray) = ofL [] from rfl, ← HW3.out]
  refine (zero_read g s e 50 _ w3 (h.ext hE3)).mono ?_
  rintro e w4 ⟨rfl, hE⟩
  have p2' := ((bcell hE).1 _ _ (by omega)).trans p2
  have q2' := ((bcell hE).2 _ _ (by omega)).trans q2
  go_wp2
  have fin := cell_set_same p2' (.string (ofL []))
  refine bodyPost_ret (v := .string (ofL [])) (by simp [results, Try.results29, go_sem, fin]) rfl ?_
  exact ⟨rfl, (hE3.tr hE).st (by simp; omega) _⟩
end Go.Proofs.Yteclfeeeaokddaa
