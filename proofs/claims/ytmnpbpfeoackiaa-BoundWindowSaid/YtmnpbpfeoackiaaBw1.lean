/-
  Package bucket: what a bucket computes. Condition: its numbers are such.
-/
import Derived.Test.YtmnpbpfeoackiaaBwPlain
import Derived.Test.YtmnpbpfeoackiaaBg1
import Derived.Test.YtmnpbpfeoackiaaInvF
import Derived.Laws.StructEq
namespace Go.Proofs.Ytmnpbpfeoackiaa
open Go.RowKit

/-- A bucket's cells. -/
def bkC (c f h a : Nat) : List Value := [.int .i64 c, .int .i64 f, .int .i64 h, .int .i64 a]
/-- A bucket as a value. -/
def bkV (c f h a : Nat) : Value := .agg #[.int .i64 c, .int .i64 f, .int .i64 h, .int .i64 a]
/-- A bucket in memory. -/
def BkB (w : World) (b : Nat) (c f h a : Nat) : Prop := Arr w b 63 (bkC c f h a)
theorem BkB.cells {w : World} {b c f h a : Nat} (H : BkB w b c f h a) : w.cell? ⟨b, 0, none⟩ = some (.int .i64 c) ∧ w.cell? ⟨b, 1, none⟩ = some (.int .i64 f) ∧ w.cell? ⟨b, 2, none⟩ = some (.int .i64 h) ∧ w.cell? ⟨b, 3, none⟩ = some (.int .i64 a) ∧ (∀ i, w.frozen? ⟨b, i, none⟩ = false) :=
  ⟨Arr.cell H 0, Arr.cell H 1, Arr.cell H 2, Arr.cell H 3, fun i => Arr.frozen H i⟩
theorem bk_new (w : World) (c f h a : Nat) : ∃ V, w.alloc (.cells #[.int .i64 c, .int .i64 f, .int .i64 h, .int .i64 a] 63) = V ∧ Ext w V ∧ BkB V w.heap.size c f h a := ⟨_, rfl, (Ext.rfl' w).al _, Arr.new w _ (bkC c f h a)⟩
theorem bk_zero (w : World) : ∃ V, w.alloc (.cells #[.int .i64 0, .int .i64 0, .int .i64 0, .int .i64 0] 63) = V ∧ Ext w V ∧ BkB V w.heap.size 0 0 0 0 := bk_new w 0 0 0 0
/-- A bucket is stored. -/
theorem bk_store {w W : World} {b c f h a : Nat} (hE : Ext w W) (hb : w.heap.size ≤ b) (H : BkB W b c f h a) (c' f' h' a' : Nat) :
    Ext w ((((W.setCell ⟨b, 0, none⟩ (.int .i64 c')).setCell ⟨b, 1, none⟩ (.int .i64 f')).setCell ⟨b, 2, none⟩ (.int .i64 h')).setCell ⟨b, 3, none⟩ (.int .i64 a')) ∧ BkB ((((W.setCell ⟨b, 0, none⟩ (.int .i64 c')).setCell ⟨b, 1, none⟩ (.int .i64 f')).setCell ⟨b, 2, none⟩ (.int .i64 h')).setCell ⟨b, 3, none⟩ (.int .i64 a')) b c' f' h' a' :=
  ⟨(((hE.st (p := ⟨b, 0, none⟩) hb _).st (p := ⟨b, 1, none⟩) hb _).st (p := ⟨b, 2, none⟩) hb _).st (p := ⟨b, 3, none⟩) hb _, (((Arr.set H 0 _).set 1 _).set 2 _).set 3 _⟩
theorem bk_other {w : World} {b k c f h a : Nat} (H : BkB w b c f h a) (hne : b ≠ k) (i : Nat) (u : Value) : BkB (w.setCell ⟨k, i, none⟩ u) b c f h a := (heap_setCell_other w ⟨k, i, none⟩ b u hne).trans H

set_option maxRecDepth 1000000 in
theorem bk_fields : Try.prog.fieldsOf 63 = (match Try.prog.underlying 63 with | some (.struct fs) => fs | _ => #[]) := rfl
set_option maxRecDepth 100000 in
theorem bk_eql (c f h a : Nat) (W : World) : (binOp .eql 63 (.agg #[.int .i64 c, .int .i64 f, .int .i64 h, .int .i64 a]) (.agg #[.int .i64 c, .int .i64 f, .int .i64 0, .int .i64 a])).run Try.prog W = .ok (.bool (decide (h = 0))) W := by
  have hu : Try.prog.underlying 63 = some (.struct (Try.prog.fieldsOf 63)) := by rw [bk_fields, Try.underlying63]
  have hi : Try.prog.underlying 3 = some (.int .i64) := Try.underlying3
  have h2 := fun (W : World) (a b : Int) => run_equalIn_int (P := Try.prog) W 9998 _ .i64 .i64 a b hi
  rw [run_eql_struct]
  have he : (Op.equalIn 10000 63 (.agg #[.int .i64 c, .int .i64 f, .int .i64 h, .int .i64 a]) (.agg #[.int .i64 c, .int .i64 f, .int .i64 0, .int .i64 a])).run Try.prog W = .ok (decide (h = 0)) W := by
    rw [run_equalIn_agg W 9999 _ _ _ hu (by kernel_rfl), bk_fields, Try.underlying63]
    by_cases h0 : h = 0
    · subst h0
      simp [Op.eqFields, go_sem]
    · have hb : ((h : Int) == 0) = false := by simp; exact h0
      simp [Op.eqFields, go_sem, hb, h0]
  rw [he]
  rfl

theorem within_yes (n m : Nat) (h : n ≤ m) (w : World) : Calls Try.prog 62 #[.int .i64 n, .int .i64 m] w fun e w' => e = .returned (.bool true) ∧ Ext w w' := by
  have q1 : decide ((0 : Int) ≤ (n : Int)) = true := by simp
  have q2 : decide ((n : Int) ≤ (m : Int)) = true := by simp; exact h
  go_enter Try.func62, Try.ntmps62
  go_wp2
  go_ret
  exact ⟨rfl, Ext.rfl' _⟩
/-- What a bucket's numbers may be. -/
structure BkOk (c f h a : Nat) : Prop where
  cB : c ≤ 1099511627776
  fB : f ≤ 1099511627776
  hB : h ≤ c
  aB : a ≤ 1099511627776
set_option maxRecDepth 100000 in
theorem right_bk {c f h a : Nat} (H : BkOk c f h a) (w : World) : Calls Try.prog 47 #[bkV c f h a] w fun e w' => e = .returned (.bool true) ∧ Ext w w' := by
  obtain ⟨W, hW, E0, B0⟩ := bk_new w c f h a
  have HW := Kp.mk hW
  have k1 := Kp.mk (fun W => within_yes c 1099511627776 H.cB W)
  have k2 := Kp.mk (fun W => within_yes f 1099511627776 H.fB W)
  have k3 := Kp.mk (fun W => within_yes h c H.hB W)
  have k4 := Kp.mk (fun W => within_yes a 1099511627776 H.aB W)
  clear hW H
  unfold bkV
  go_enter Try.func47, Try.ntmps47
  go_upto_region 1 with fail
  rw [HW.out]
  clear HW
  obtain ⟨c0, c1, c2, c3, _⟩ := B0.cells
  go_wp2_with fail
  refine (k1.out _).mono ?_
  rintro e W1 ⟨rfl, E1⟩
  have B1 := Arr.ext B0 E1 (Arr.lt B0)
  have F1 := E0.tr E1
  clear c0 c1 c2 c3 B0 E0 E1
  obtain ⟨c0, c1, c2, c3, _⟩ := BkB.cells B1
  go_wp2_with fail
  refine (k2.out _).mono ?_
  rintro e W2 ⟨rfl, E2⟩
  have B2 := Arr.ext B1 E2 (Arr.lt B1)
  have F2 := F1.tr E2
  clear c0 c1 c2 c3 B1 F1 E2
  obtain ⟨c0, c1, c2, c3, _⟩ := BkB.cells B2
  go_wp2_with fail
  refine (k3.out _).mono ?_
  rintro e W3 ⟨rfl, E3⟩
  have B3 := Arr.ext B2 E3 (Arr.lt B2)
  have F3 := F2.tr E3
  clear c0 c1 c2 c3 B2 F2 E3
  obtain ⟨c0, c1, c2, c3, _⟩ := BkB.cells B3
  go_wp2_with fail
  refine (k4.out _).mono ?_
  rintro e W4 ⟨rfl, E4⟩
  have F4 := F3.tr E4
  go_wp2
  go_ret
  exact ⟨rfl, F4⟩
set_option maxRecDepth 100000 in
theorem bknew_any (nm : Value) (c f now : Nat) (w : World) : Calls Try.prog 46 #[.agg #[nm, .int .i64 c, .int .i64 f], .int .i64 now] w fun e w' => e = .returned (bkV c f 0 now) ∧ Ext w w' := by
  obtain ⟨W1, hW1, E1, A1⟩ : ∃ W, w.alloc (.cells #[nm, .int .i64 c, .int .i64 f] 23) = W ∧ Ext w W ∧ Arr W w.heap.size 23 [nm, .int .i64 c, .int .i64 f] := ⟨_, rfl, (Ext.rfl' w).al _, Arr.new w _ [nm, .int .i64 c, .int .i64 f]⟩
  obtain ⟨W2, hW2, E2, B2⟩ := bk_zero W1
  have HW1 := Kp.mk hW1; have HW2 := Kp.mk hW2
  have A2 := A1.ext E2 A1.lt
  have F2 := E1.tr E2
  have hs1 := E1.size
  have hlt := A1.lt
  clear hW1 hW2
  go_enter Try.func46, Try.ntmps46
  go_upto_region 1 with fail
  rw [HW1.out, HW2.out]
  have hz : w.heap.size + 1 = W1.heap.size := by rw [← HW1.out]; simp
  have c1 := A2.cell 1; have c2 := A2.cell 2
  simp only [List.getElem?_cons_zero, List.getElem?_cons_succ] at c1 c2
  obtain ⟨b0, b1, b2, b3, bf⟩ := B2.cells
  have f0 := bf 0; have f1 := bf 1; have f2 := bf 2; have f3 := bf 3
  have HZ := Kp.mk hz
  try rw [HZ.out]
  clear hz HW1 HW2 A1 E1 E2
  go_wp2
  have z := bk_store F2 (show w.heap.size ≤ W1.heap.size by omega) B2 c f 0 now
  revert z
  rw [show ((0 : Nat) : Int) = 0 from rfl]
  generalize World.setCell _ ⟨W1.heap.size, 3, none⟩ (.int .i64 (now : Int)) = wz
  intro ⟨zE, zA⟩
  obtain ⟨z0, z1, z2, z3, _⟩ := zA.cells
  refine bodyPost_ret (v := bkV c f 0 now) (by simp [bkV, results, Try.results46, go_sem, z0, z1, z2, z3]) rfl ?_
  exact ⟨rfl, zE⟩
end Go.Proofs.Ytmnpbpfeoackiaa
