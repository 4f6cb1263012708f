/-
  Package field: Text, Num; the statements' own examples; one call of both readers. Condition: what is left is at most 1000000 bytes.
-/
import Derived.Test.YtjpcedgonjmchaaFldRef
namespace Go.Proofs.Ytjpcedgonjmchaa
open Go.RowKit

def fText (l : List UInt8) : List UInt8 := vput l.length ++ l

set_option maxHeartbeats 400000 in
theorem ftext_any (s : ByteArray) (w : World) (hs : s.size ≤ 1000000) :
    Calls Try.prog 23 #[.string s] w fun e w' => e = .returned (.string (ofL (fText (toL s)))) ∧ Ext w w' := by
  have hu : IntKind.u64.wrap (s.size : Int) = (s.size : Int) := U64.wrap (by show _ < _; omega)
  have hL := length_vput s.size
  have hL2 : (ofL (vput s.size)).size = (vput s.size).length := size_ofL _
  have hx : ofL (vput s.size) ++ s = ofL (fText (toL s)) := by
    apply toL_inj; rw [toL_append, toL_ofL, toL_ofL]; unfold fText; rw [length_toL]
  go_enter Try.func23, Try.ntmps23
  go_wp2_with fail
  refine (vput_any s.size _ (by show _ < _; omega)).mono ?_
  rintro e w1 ⟨rfl, hE⟩
  go_wp2
  go_ret
  exact ⟨by first | rfl | (rw [← hx]; rfl), hE⟩

set_option maxHeartbeats 400000 in
theorem r8Text_any (s : ByteArray) (w : World) (hs : s.size ≤ 1000000) :
    Calls Try.prog 28 #[.string s] w fun e w' => e = .returned (.string (ofL (fText (toL s)))) ∧ Ext w w' := by
  have hu : IntKind.u64.wrap (s.size : Int) = (s.size : Int) := U64.wrap (by show _ < _; omega)
  have hL := length_vput s.size
  have hL2 : (ofL (vput s.size)).size = (vput s.size).length := size_ofL _
  have hx : ofL (vput s.size) ++ s = ofL (fText (toL s)) := by
    apply toL_inj; rw [toL_append, toL_ofL, toL_ofL]; unfold fText; rw [length_toL]
  go_enter Try.func28, Try.ntmps28
  go_wp2_with fail
  refine (rvput_all s.size _ (by show _ < _; omega)).mono ?_
  rintro e w1 ⟨rfl, hE⟩
  go_wp2
  go_ret
  exact ⟨by first | rfl | (rw [← hx]; rfl), hE⟩

set_option maxHeartbeats 400000 in
theorem fnum_any (n : Nat) (w : World) (hn : U64 n) :
    Calls Try.prog 24 #[.int .u64 n] w fun e w' => e = .returned (.string (ofL (vput n))) ∧ Ext w w' := by
  go_enter Try.func24, Try.ntmps24
  go_wp2_with fail
  refine (vput_any n _ hn).mono ?_
  rintro e w1 ⟨rfl, hE⟩
  go_wp2
  go_ret
  exact ⟨rfl, hE⟩

theorem Only.rdr {g g' : Nat} {w w' : World} {m : Bool} {s : List UInt8} {e : Int} (hO : Only g w w') (h : Rdr w g' m s e) (hne : g' ≠ g) : Rdr w' g' m s e :=
  (hO.block g' h.lt (by simpa using hne)).trans h

theorem Only.cellAt {g b i : Nat} {v : Value} {w w' : World} (hO : Only g w w') (h : w.cell? ⟨b, i, none⟩ = some v) (hb : b ≠ g) : w'.cell? ⟨b, i, none⟩ = some v :=
  (World.cell?_of_block (w := w) (a := ⟨b, i, none⟩) (hO.block b (World.block_lt_of_cell? _ _ h) (by simpa using hb))).trans h
theorem Only.both {g b i : Nat} {v : Value} {w w' : World} (hO : Only g w w') (h : w.cell? ⟨b, i, none⟩ = some v ∧ w.frozen? ⟨b, i, none⟩ = false) (hb : b ≠ g) : w'.cell? ⟨b, i, none⟩ = some v ∧ w'.frozen? ⟨b, i, none⟩ = false :=
  ⟨hO.cellAt h.1 hb, (World.frozen?_of_block (w := w) (a := ⟨b, i, none⟩) (hO.block b (World.block_lt_of_cell? _ _ h.1) (by simpa using hb))).trans h.2⟩


/-- A call: kind, N, M, E. -/
structure FAct where
  k : Int
  n : Nat
  m : Int
  e : Int
abbrev av (a : FAct) : Value := .agg #[.int .i64 a.k, .int .u64 a.n, .int .i64 a.m, .int .i64 a.e]
def rStep (x : RS) (a : FAct) : RS :=
  if a.k = 0 then (rByte x).2 else if a.k = 1 then (rNum x a.n).2 else if a.k = 2 then (rText x a.m).2 else if a.k = 3 then rFail x a.e else if a.k = 4 then rEnd x else x

end Go.Proofs.Ytjpcedgonjmchaa
