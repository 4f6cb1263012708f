/-
  Package field: Text, Num; the statements' own examples; one call of both readers. Condition: what is left is at most 1000000 bytes.
-/
import Derived.Test.YtmnpbpfeoackiaaDoorFldRef
import Derived.Test.YtmnpbpfeoackiaaDoorFldTx
namespace Go.Proofs.YtmnpbpfeoackiaaDoor
open Go.RowKit

theorem Only.rdr {g g' : Nat} {w w' : World} {m : Bool} {s : List UInt8} {e : Int} (hO : Only g w w') (h : Rdr w g' m s e) (hne : g' ≠ g) : Rdr w' g' m s e :=
  (hO.block g' h.lt (by simpa using hne)).trans h

theorem Only.cellAt {g b i : Nat} {v : Value} {w w' : World} (hO : Only g w w') (h : w.cell? ⟨b, i, none⟩ = some v) (hb : b ≠ g) : w'.cell? ⟨b, i, none⟩ = some v :=
  (World.cell?_of_block (w := w) (a := ⟨b, i, none⟩) (hO.block b (World.block_lt_of_cell? _ _ h) (by simpa using hb))).trans h
theorem Only.both {g b i : Nat} {v : Value} {w w' : World} (hO : Only g w w') (h : w.cell? ⟨b, i, none⟩ = some v ∧ w.frozen? ⟨b, i, none⟩ = false) (hb : b ≠ g) : w'.cell? ⟨b, i, none⟩ = some v ∧ w'.frozen? ⟨b, i, none⟩ = false :=
  ⟨hO.cellAt h.1 hb, (World.frozen?_of_block (w := w) (a := ⟨b, i, none⟩) (hO.block b (World.block_lt_of_cell? _ _ h.1) (by simpa using hb))).trans h.2⟩


/-- A call: kind, N, M, E. -/
structure FAct where
  k : Int
  n : Nat
  m : Int
  e : Int
abbrev av (a : FAct) : Value := .agg #[.int .i64 a.k, .int .u64 a.n, .int .i64 a.m, .int .i64 a.e]
def rStep (x : RS) (a : FAct) : RS :=
  if a.k = 0 then (rByte x).2 else if a.k = 1 then (rNum x a.n).2 else if a.k = 2 then (rText x a.m).2 else if a.k = 3 then rFail x a.e else if a.k = 4 then rEnd x else x

end Go.Proofs.YtmnpbpfeoackiaaDoor
