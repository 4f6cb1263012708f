/-
  Package field's statements: one call of both readers. Condition: what is left is at most 1000000 bytes.
-/
import Derived.Test.YteclfeeeaokddaaFldDoes
namespace Go.Proofs.Yteclfeeeaokddaa
open Go.RowKit

set_option maxRecDepth 100000 in
set_option maxHeartbeats 2000000 in
theorem does_none (g : Nat) (x : RS) (a : FAct) (w : World) (h : Rdr w g true x.1 x.2) (e0 : a.k ≠ 0) (e1 : a.k ≠ 1) (e2 : a.k ≠ 2) (e3 : a.k ≠ 3) (e4 : a.k ≠ 4) :
    Calls Try.prog 23 #[.pointer (some ⟨g, 0, none⟩), rv x, av a] w fun ee w' => ee = .returned (.tuple #[rv x, .bool true]) ∧ Rdr w' g true x.1 x.2 ∧ Only g w w' := by
  obtain ⟨k, n, m, er⟩ := a
  simp only [] at e0 e1 e2 e3 e4
  have d0 := beq_int_f e0
  have d1 := beq_int_f e1
  have d2 := beq_int_f e2
  have d3 := beq_int_f e3
  have d4 := beq_int_f e4
  clear e0 e1 e2 e3 e4
  go_enter Try.func23, Try.ntmps23
  go_wp2
  refine bodyPost_ret (v := .tuple #[rv x, .bool true]) (by simp [results, Try.results23, go_sem]) rfl ?_
  refine ⟨rfl, h.ext ?_, Only.of ?_⟩ <;> exact (((Ext.rfl' w).al _).al _).al _

theorem does_any (g : Nat) (x : RS) (a : FAct) (w : World) (h : Rdr w g true x.1 x.2) (hs : x.1.length ≤ 1000000) (hm : a.m ≤ 9223372036854775807) :
    Calls Try.prog 23 #[.pointer (some ⟨g, 0, none⟩), rv x, av a] w fun ee w' => ee = .returned (.tuple #[rv (rStep x a), .bool true]) ∧ Rdr w' g true (rStep x a).1 (rStep x a).2 ∧ Only g w w' := by
  obtain ⟨k, n, m, er⟩ := a
  unfold rStep
  by_cases e0 : k = 0
  · subst e0; rw [if_pos (by rfl)]; exact does_byte g x n m er w h hs
  rw [if_neg (by exact e0)]
  by_cases e1 : k = 1
  · subst e1; rw [if_pos (by rfl)]; exact does_num g x n m er w h hs
  rw [if_neg (by exact e1)]
  by_cases e2 : k = 2
  · subst e2; rw [if_pos (by rfl)]; exact does_text g x n m er w h hs hm
  rw [if_neg (by exact e2)]
  by_cases e3 : k = 3
  · subst e3; rw [if_pos (by rfl)]; exact does_fail g x n m er w h
  rw [if_neg (by exact e3)]
  by_cases e4 : k = 4
  · subst e4; rw [if_pos (by rfl)]; exact does_end g x n m er w h hs
  rw [if_neg (by exact e4)]
  exact does_none g x ⟨k, n, m, er⟩ w h e0 e1 e2 e3 e4
end Go.Proofs.Yteclfeeeaokddaa
