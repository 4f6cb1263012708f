/-
  Package frame: Get. No condition.
-/
import Derived.Test.YtjpcedgonjmchaaFramePut
import Derived.Test.YtjpcedgonjmchaaFrame3
import Derived.Deep.RegionHeld3
import Derived.Laws.StructEq
namespace Go.Proofs.Ytjpcedgonjmchaa
open Go.RowKit

theorem ofL_getD (s : List UInt8) (i : Nat) (h : i < (ofL s).size) : (ofL s)[i]'h = s.getD i 0 := by
  have h' : i < s.length := by rw [← size_ofL s]; exact h
  rw [toL_get _ _ h, List.getD_eq_getElem?_getD, List.getElem?_eq_getElem h']
  simp [toL_ofL]

theorem ieq_f {a b : Int} (h : a ≠ b) : (a == b) = false := by simpa using h
def frEq (a b : Frm) : Bool := a.m == b.m && (a.k == b.k && a.t == b.t)
theorem frEq_self (a : Frm) : frEq a a = true := by simp [frEq]
theorem frEq_iff (a b : Frm) : frEq a b = true ↔ a = b := by
  obtain ⟨m, k, t⟩ := a
  obtain ⟨m', k', t'⟩ := b
  simp [frEq]
theorem fr_fields : Try.prog.fieldsOf 33 = (match Try.prog.underlying 33 with | some (.struct fs) => fs | _ => #[]) := rfl
set_option maxRecDepth 100000 in
theorem fr_eqIn (a b : Frm) (W : World) : (Op.equalIn 10000 33 (frV a) (frV b)).run Try.prog W = .ok (frEq a b) W := by
  obtain ⟨m, k, t⟩ := a
  obtain ⟨m', k', t'⟩ := b
  have hu : Try.prog.underlying 33 = some (.struct (Try.prog.fieldsOf 33)) := by rw [fr_fields, Try.underlying33]
  have hb : ((ofL t).toList == (ofL t').toList) = (t == t') := by rw [toList_eq_toL, toList_eq_toL, toL_ofL, toL_ofL]
  rw [run_equalIn_agg W 9999 _ _ _ hu (by kernel_rfl), fr_fields, Try.underlying33]
  have hs : Try.prog.underlying 9 = some .string := Try.underlying9
  have hi : Try.prog.underlying 3 = some (.int .i64) := Try.underlying3
  have h1 := fun (W : World) => run_equalIn_string (P := Try.prog) W 9998 _ (ofL t) (ofL t') hs
  have h2 := fun (W : World) (a b : Int) => run_equalIn_int (P := Try.prog) W 9998 _ .i64 .i64 a b hi
  cases q1 : (m == m')
  · simp [Op.eqFields, go_sem, q1, frEq]
  · cases q2 : (k == k')
    · simp [Op.eqFields, go_sem, q1, q2, frEq]
    · cases q3 : (t == t')
      · simp [Op.eqFields, go_sem, hb, q1, q2, q3, frEq]
      · simp [Op.eqFields, go_sem, hb, q1, q2, q3, frEq]
theorem fr_eql (a b : Frm) (W : World) : (binOp .eql 33 (frV a) (frV b)).run Try.prog W = .ok (.bool (frEq a b)) W := by
  rw [run_eql_struct, fr_eqIn]; rfl
theorem fr_neq (a b : Frm) (W : World) : (binOp .neq 33 (frV a) (frV b)).run Try.prog W = .ok (.bool (!frEq a b)) W := by
  rw [run_neq_struct, fr_eqIn]; rfl

/-- What the program reads before it tests. -/
def frRaw (s : List UInt8) : Frm := ⟨wrap64 ((numN (s.take 8) : Nat) : Int), ((s.getD 8 0).toNat : Int), (s.drop 10).take (min (s.getD 9 0).toNat 110)⟩
theorem frRaw_good {s : List UInt8} (h : frGood s) : frRaw s = frOf s := by
  unfold frRaw frOf
  have h8 : numN (s.take 8) < 9223372036854775808 := (num8_small (by rw [List.length_take]; have := h.1; omega)).2 (by rw [getD_take _ 8 7 (by omega)]; exact h.2.2.1)
  rw [IntWalk.wrap64_in _ (by omega)]
theorem frRaw_bad {s : List UInt8} (hl : s.length = 128) (h : ¬ frGood s) : (frPut (frRaw s)).2 ≠ 0 ∨ (frPut (frRaw s)).1 ≠ s := by
  by_cases h8 : numN (s.take 8) < 9223372036854775808
  · have e : frRaw s = frOf s := by unfold frRaw frOf; rw [IntWalk.wrap64_in _ (by omega)]
    rw [e]
    by_cases h0 : (frPut (frOf s)).2 = 0
    · right
      intro h1
      exact h ((frGood_iff (by unfold frOf; dsimp only; omega)).1 ⟨h0, h1⟩)
    · exact .inl h0
  · left
    have hlt : numN (s.take 8) < 18446744073709551616 := by
      have := numN_lt (s.take 8)
      rw [List.length_take, hl] at this
      exact this
    rw [frPut_arg (.inl (by
      show wrap64 _ < 1
      unfold wrap64
      omega))]
    decide

theorem fset3 {w : World} {b : Nat} {f : Frm} (h : FrB w b f) (g : Frm) : FrB (((w.setCell ⟨b, 0, none⟩ (.int .i64 g.m)).setCell ⟨b, 1, none⟩ (.int .i64 g.k)).setCell ⟨b, 2, none⟩ (.string (ofL g.t))) b g :=
  heap_setCell_same _ _ 2 _ _ _ (heap_setCell_same _ _ 1 _ _ _ (heap_setCell_same w b 0 _ _ _ h))

set_option maxRecDepth 100000 in
set_option maxHeartbeats 2000000 in
theorem fget_short (s : List UInt8) (w : World) (hs : s.length ≠ 128) :
    Calls Try.prog 17 #[.string (ofL s)] w fun e w' => e = .returned (.tuple #[frV ⟨0, 0, []⟩, .bool false]) ∧ Ext w w' := by
  have hsz : (ofL s).size = s.length := size_ofL _
  have t : ((s.length : Int) != 128) = true := by rw [bne_iff_ne]; omega
  obtain ⟨w1, hw1, hE1, hz1, b1⟩ := fr_box w ⟨0, 0, []⟩
  have HW1 := Lib.hid hw1; clear hw1 hs
  obtain ⟨c0, c1, c2, cf⟩ := b1.cells
  dsimp only at c0 c1 c2
  go_enter Try.func17, Try.ntmps17
  go_upto_region 1 with fail
  rw [show (⟨#[]⟩ : ByteArray) = ofL [] from rfl, ← HW1.out]
  clear HW1
  go_wp2
  have z4 := fset3 b1 ⟨0, 0, []⟩
  have zE := ((hE1.st (p := ⟨w.heap.size, 0, none⟩) (by simp) (.int .i64 0)).st (p := ⟨w.heap.size, 1, none⟩) (by simp) (.int .i64 0)).st (p := ⟨w.heap.size, 2, none⟩) (by simp) (.string ⟨#[]⟩)
  revert z4 zE
  dsimp only
  rw [show ofL [] = (⟨#[]⟩ : ByteArray) from rfl]
  generalize ((w1.setCell ⟨w.heap.size, 0, none⟩ (.int .i64 0)).setCell ⟨w.heap.size, 1, none⟩ (.int .i64 0)).setCell ⟨w.heap.size, 2, none⟩ (.string ⟨#[]⟩) = wz
  intro z4 zE
  obtain ⟨f0, f1, f2, _⟩ := z4.cells
  refine bodyPost_ret (v := .tuple #[frV ⟨0, 0, []⟩, .bool false]) (by simp [results, Try.results17, go_sem, f0, f1, f2]) rfl ?_
  exact ⟨rfl, zE⟩

end Go.Proofs.Ytjpcedgonjmchaa
