/-
  Worlds that differ in one block and in what is new. No condition.
-/
import Derived.Test.YtejhiekikblbiaaGreatDoorMgA
namespace Go.Proofs.YtejhiekikblbiaaGreatDoor
open Go.RowKit

/-- Only block g, and what is new, has turned. -/
abbrev Only (g : Nat) (w w' : World) : Prop := w.grownBy w' (some g)
theorem Only.rfl' (g : Nat) (w : World) : Only g w w := World.grownBy.refl w _
theorem Only.tr {g : Nat} {a b c : World} (h : Only g a b) (k : Only g b c) : Only g a c :=
  ⟨k.os.trans h.os, k.tape.trans h.tape, k.output.trans h.output, Nat.le_trans h.size k.size, fun i hi hne => (k.block i (Nat.lt_of_lt_of_le hi h.size) hne).trans (h.block i hi hne)⟩
theorem Only.ext {g : Nat} {a b c : World} (h : Only g a b) (k : Ext b c) : Only g a c :=
  ⟨k.os.trans h.os, k.tape.trans h.tape, k.output.trans h.output, Nat.le_trans h.size k.size, fun i hi hne => (k.block i (Nat.lt_of_lt_of_le hi h.size)).trans (h.block i hi hne)⟩
theorem Only.of {g : Nat} {a b : World} (k : Ext a b) : Only g a b := (Only.rfl' g a).ext k
theorem Only.st {g : Nat} {a b : World} (h : Only g a b) (i : Nat) (u : Value) : Only g a (b.setCell ⟨g, i, none⟩ u) :=
  ⟨h.os, h.tape, h.output, by simpa [World.setCell] using h.size, fun k hk hne => (Below.heap_setCell b ⟨g, i, none⟩ u k (fun e => hne (by rw [e]))).trans (h.block k hk hne)⟩
theorem Only.stNew {g : Nat} {a b : World} (h : Only g a b) {p : Addr} (hp : a.heap.size ≤ p.block) (u : Value) : Only g a (b.setCell p u) :=
  ⟨h.os, h.tape, h.output, by simpa [World.setCell] using h.size, fun k hk hne => (Below.heap_setCell b p u k (by omega)).trans (h.block k hk hne)⟩
theorem Only.toExt {g : Nat} {a b : World} {w : World} (h : Only g a b) (hE : Ext w a) (hg : w.heap.size ≤ g) : Ext w b := hE.gr h fun k hk => by
  have : g = k := by simpa using hk
  omega
end Go.Proofs.YtejhiekikblbiaaGreatDoor
