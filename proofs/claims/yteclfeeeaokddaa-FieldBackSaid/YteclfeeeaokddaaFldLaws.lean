/-
  Package field: Text, Num; the statements' own examples; one call of both readers. Condition: what is left is at most 1000000 bytes.
-/
import Derived.Test.YteclfeeeaokddaaFldRef
namespace Go.Proofs.Yteclfeeeaokddaa
open Go.RowKit

def fText (l : List UInt8) : List UInt8 := vput l.length ++ l

set_option maxHeartbeats 400000 in
theorem ftext_any (s : ByteArray) (w : World) (hs : s.size ≤ 1000000) :
    Calls Try.prog 30 #[.string s] w fun e w' => e = .returned (.string (ofL (fText (toL s)))) ∧ Ext w w' := by
  have hu : IntKind.u64.wrap (s.size : Int) = (s.size : Int) := U64.wrap (by show _ < _; omega)
  have hL := length_vput s.size
  have hL2 : (ofL (vput s.size)).size = (vput s.size).length := size_ofL _
  have hx : ofL (vput s.size) ++ s = ofL (fText (toL s)) := by
    apply toL_inj; rw [toL_append, toL_ofL, toL_ofL]; unfold fText; rw [length_toL]
  go_enter Try.func30, Try.ntmps30
  go_wp2_with fail
  refine (vput_any s.size _ (by show _ < _; omega)).mono ?_
  rintro e w1 ⟨rfl, hE⟩
  go_wp2
  go_ret
  exact ⟨by first | rfl | (rw [← hx]; rfl), hE⟩

set_option maxHeartbeats 400000 in
theorem r8Text_any (s : ByteArray) (w : World) (hs : s.size ≤ 1000000) :
    Calls Try.prog 31 #[.string s] w fun e w' => e = .returned (.string (ofL (fText (toL s)))) ∧ Ext w w' := by
  have hu : IntKind.u64.wrap (s.size : Int) = (s.size : Int) := U64.wrap (by show _ < _; omega)
  have hL := length_vput s.size
  have hL2 : (ofL (vput s.size)).size = (vput s.size).length := size_ofL _
  have hx : ofL (vput s.size) ++ s = ofL (fText (toL s)) := by
    apply toL_inj; rw [toL_append, toL_ofL, toL_ofL]; unfold fText; rw [length_toL]
  go_enter Try.func31, Try.ntmps31
  go_wp2_with fail
  refine (rvput_all s.size _ (by show _ < _; omega)).mono ?_
  rintro e w1 ⟨rfl, hE⟩
  go_wp2
  go_ret
  exact ⟨by first | rfl | (rw [← hx]; rfl), hE⟩

set_option maxHeartbeats 400000 in
theorem fnum_any (n : Nat) (w : World) (hn : U64 n) :
    Calls Try.prog 32 #[.int .u64 n] w fun e w' => e = .returned (.string (ofL (vput n))) ∧ Ext w w' := by
  go_enter Try.func32, Try.ntmps32
  go_wp2_with fail
  refine (vput_any n _ hn).mono ?_
  rintro e w1 ⟨rfl, hE⟩
  go_wp2
  go_ret
  exact ⟨rfl, hE⟩

theorem Only.rdr {g g' : Nat} {w w' : World} {m : Bool} {s : List UInt8} {e : Int} (hO : Only g w w') (h : Rdr w g' m s e) (hne : g' ≠ g) : Rdr w' g' m s e :=
  (hO.block g' h.lt (by simpa using hne)).trans h

theorem Only.cellAt {g b i : Nat} {v : Value} {w w' : World} (hO : Only g w w') (h : w.cell? ⟨b, i, none⟩ = some v) (hb : b ≠ g) : w'.cell? ⟨b, i, none⟩ = some v :=
  (World.cell?_of_block (w := w) (a := ⟨b, i, none⟩) (hO.block b (World.block_lt_of_cell? _ _ h) (by simpa using hb))).trans h
theorem Only.both {g b i : Nat} {v : Value} {w w' : World} (hO : Only g w w') (h : w.cell? ⟨b, i, none⟩ = some v ∧ w.frozen? ⟨b, i, none⟩ = false) (hb : b ≠ g) : w'.cell? ⟨b, i, none⟩ = some v ∧ w'.frozen? ⟨b, i, none⟩ = false :=
  ⟨hO.cellAt h.1 hb, (World.frozen?_of_block (w := w) (a := ⟨b, i, none⟩) (hO.block b (World.block_lt_of_cell? _ _ h.1) (by simpa using hb))).trans h.2⟩

set_option maxRecDepth 100000 in
set_option maxHeartbeats 1000000 in
theorem works08_any (w : World) :
    Calls Try.prog 21 #[] w fun e w' => e = .returned (.bool true) ∧ Ext w w' := by
  go_enter Try.func21, Try.ntmps21
  go_wp2_with fail
  refine (new_any _ _).mono ?_
  rintro e w1 ⟨rfl, h1, hE1⟩
  have hs1 := hE1.size
  have hl1 := h1.lt
  go_wp2_with fail
  refine (text_any _ (toL ⟨#[2, 97, 98, 99]⟩, 0) 9 _ h1 (by decide) (by decide)).mono ?_
  rintro e w2 ⟨rfl, h2, hO2⟩
  rw [show rText (toL ⟨#[2, 97, 98, 99]⟩, 0) 9 = ([97, 98], ([99], 0)) from by decide] at h2 ⊢
  have hE2 : Ext w w2 := hO2.toExt hE1 (by omega)
  have hz2 := hO2.size
  go_wp2_with fail
  refine (new_any _ _).mono ?_
  rintro e w3 ⟨rfl, h3, hE3⟩
  have k3 := h2.ext hE3
  have hz3 := hE3.size
  go_wp2_with fail
  refine (text_any _ (toL ⟨#[5, 97]⟩, 0) 4 _ h3 (by decide) (by decide)).mono ?_
  rintro e w4 ⟨rfl, h4, hO4⟩
  rw [show rText (toL ⟨#[5, 97]⟩, 0) 4 = ([], ([], 3)) from by decide] at h4 ⊢
  have k4 := hO4.rdr k3 (by omega)
  have hE4 : Ext w w4 := hO4.toExt (hE2.tr hE3) (by have := hE2.size; omega)
  go_wp2_with fail
  refine (ftext_any _ _ (by decide)).mono ?_
  rintro e w5 ⟨rfl, hE5⟩
  rw [show ofL (fText (toL ⟨#[97, 98]⟩)) = ⟨#[2, 97, 98]⟩ from by decide]
  have h5 := h4.ext hE5
  have k5 := k4.ext hE5
  go_wp2_with fail
  refine (left_any _ true _ _ _ k5).mono ?_
  rintro e w6 ⟨rfl, rfl⟩
  go_wp2_with fail
  refine (byte_any _ ([99], 0) _ k5 (by decide)).mono ?_
  rintro e w7 ⟨rfl, k7, hO7⟩
  rw [show rByte ([99], 0) = (99, ([], 0)) from by decide] at k7 ⊢
  have h7 := hO7.rdr h5 (by omega)
  have hE7 : Ext w w7 := hO7.toExt (hE4.tr hE5) (by omega)
  go_wp2_with fail
  refine (end_any _ ([], 0) _ k7 (by decide)).mono ?_
  rintro e w8 ⟨rfl, k8, hO8⟩
  rw [show rEnd ([], 0) = ([], 0) from by decide]
  have h8 := hO8.rdr h7 (by omega)
  have hE8 : Ext w w8 := hO8.toExt hE7 (by omega)
  go_wp2_with fail
  refine (err_any _ _ _ _ h8).mono ?_
  rintro e w9 ⟨rfl, rfl⟩
  go_wp2_with fail
  refine (end_any _ ([], 3) _ h8 (by decide)).mono ?_
  rintro e w9 ⟨rfl, h9, hO9⟩
  rw [show rEnd ([], 3) = ([], 3) from by decide]
  have hE9 : Ext w w9 := hO9.toExt hE8 (by have := hE2.size; omega)
  go_wp2_with fail
  refine (fnum_any 300 _ (by show _ < _; decide)).mono ?_
  rintro e w10 ⟨rfl, hE10⟩
  rw [show ofL (vput 300) = ⟨#[172, 2]⟩ from by decide]
  go_wp2
  go_ret
  exact ⟨rfl, hE9.tr hE10⟩

/-- A call: kind, N, M, E. -/
structure FAct where
  k : Int
  n : Nat
  m : Int
  e : Int
abbrev av (a : FAct) : Value := .agg #[.int .i64 a.k, .int .u64 a.n, .int .i64 a.m, .int .i64 a.e]
def rStep (x : RS) (a : FAct) : RS :=
  if a.k = 0 then (rByte x).2 else if a.k = 1 then (rNum x a.n).2 else if a.k = 2 then (rText x a.m).2 else if a.k = 3 then rFail x a.e else if a.k = 4 then rEnd x else x

theorem aboxes (w : World) (x : RS) (a : FAct) (y : RS) : ∃ w3 : World, w3 = ((w.alloc (.cells #[.string (ofL x.1), .int .i64 x.2] 37)).alloc (.cells #[.int .i64 a.k, .int .u64 a.n, .int .i64 a.m, .int .i64 a.e] 42)).alloc (.cells #[.string (ofL y.1), .int .i64 y.2] 37) ∧
    Ext w w3 ∧ RBx w3 w.heap.size x ∧ (∀ i u, #[.int .i64 a.k, .int .u64 a.n, .int .i64 a.m, .int .i64 a.e][i]? = some u → w3.cell? ⟨w.heap.size + 1, i, none⟩ = some u) ∧ RBx w3 (w.heap.size + 1 + 1) y := by
  refine ⟨_, rfl, (((Ext.rfl' w).al _).al _).al _, ?_, ?_, ?_⟩
  · show (((w.heap.push _).push _).push _)[_]? = _
    rw [Array.getElem?_push, if_neg (by simp <;> omega), Array.getElem?_push, if_neg (by simp), Array.getElem?_push, if_pos rfl]
  · intro i u hu
    refine (cell_of_row _ (w.heap.size + 1) i #[.int .i64 a.k, .int .u64 a.n, .int .i64 a.m, .int .i64 a.e] 42 (0, 0) ?_).trans hu
    show (((w.heap.push _).push _).push _)[_]? = _
    rw [Array.getElem?_push, if_neg (by simp), Array.getElem?_push, if_pos (by simp)]
  · show (((w.heap.push _).push _).push _)[_]? = _
    rw [Array.getElem?_push, if_pos (by simp)]

end Go.Proofs.Yteclfeeeaokddaa
