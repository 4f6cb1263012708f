/-
  strings.Builder's WriteString, WriteByte, String, with word that all else stays. No condition.
-/
import Derived.Test.YtmnpbpfeoackiaaDoorGen
import Derived.Shelf.Strings.BuilderK
namespace Go.Proofs.YtmnpbpfeoackiaaDoor
open Go.RowKit Go.Shelf

theorem isBuilderF_ext {T e : TypeId} {B b : Nat} {bs : List Value} {w w' : World} (h : Lib.IsBuilderF T e B b bs w) (hE : Ext w w') : Lib.IsBuilderF T e B b bs w' := by
  have key : ∀ p, Lib.BuilderAtF T e B b p bs w → Lib.BuilderAtF T e B b p bs w' := by
    rintro p ⟨hB, v, hb, hown, hne⟩
    refine ⟨hB, v, (hE.block b (Array.getElem?_eq_some_iff.1 hb).1).trans hb, hown.kept (ext_grown hE) ?_, hne⟩
    cases v.ownBlock with
    | none => exact .inl rfl
    | some r => exact .inr (by simp)
  exact h.elim (fun h => .inl (key _ h)) (fun h => .inr (key _ h))
theorem arr_others {e t : TypeId} {b g : Nat} {w w' : World} {xs : List Value} (h : Lib.OthersKept e (some b) w w') (hA : Arr w g t xs) (hg : g ≠ b) (ht : t ≠ e) : Arr w' g t xs :=
  h g _ hA (by simpa using hg) (by intro c fz e9; cases e9; exact ht rfl)
theorem bk_write (B b : Nat) (l p : List UInt8) (w : World) (h : Lib.IsBuilderF 101 5 B b (Lib.byteCells l) w) (hlen : l.length + p.length ≤ 1000000000) (hBw : B ≤ w.heap.size) :
    Calls Tryd.prog 63 #[.pointer (some ⟨b, 0, none⟩), .string (ofL p)] w fun e w' => e = .returned (.tuple #[.int .i64 p.length, .nilIface]) ∧ Lib.IsBuilderF 101 5 B b (Lib.byteCells (l ++ p)) w' ∧ Below B w w' ∧ Lib.OthersKept 5 (some b) w w' := by
  refine (Any.Builder_WriteString_k bld_laid bld_extra B b _ (ofL p) w h (by rw [Lib.byteCells_length, size_ofL]; omega) hBw).mono ?_
  rintro e w' ⟨rfl, hb, hB, hO⟩
  rw [strCells_ofL, byteCells_append] at hb
  exact ⟨by rw [size_ofL], .inr hb, hB, hO⟩
theorem bk_byte (B b : Nat) (l : List UInt8) (c : Nat) (hc : c < 256) (w : World) (h : Lib.IsBuilderF 101 5 B b (Lib.byteCells l) w) (hlen : l.length + 1 ≤ 1000000000) (hBw : B ≤ w.heap.size) :
    Calls Tryd.prog 87 #[.pointer (some ⟨b, 0, none⟩), .int .u8 c] w fun e w' => e = .returned .nilIface ∧ Lib.IsBuilderF 101 5 B b (Lib.byteCells (l ++ [c.toUInt8])) w' ∧ Below B w w' ∧ Lib.OthersKept 5 (some b) w w' := by
  refine (Any.Builder_WriteByte_k byt_laid byt_extra B b _ (c : Int) w h (by rw [Lib.byteCells_length]; omega) hBw).mono ?_
  rintro e w' ⟨rfl, hb, hB, hO⟩
  refine ⟨rfl, .inr ?_, hB, hO⟩
  have hcell : Lib.byteCells l ++ [.int .u8 (c : Int)] = Lib.byteCells (l ++ [c.toUInt8]) := by
    rw [← byteCells_append]
    congr 1
    show _ = [Value.int .u8 (((c.toUInt8).toNat : Nat) : Int)]
    rw [UInt8.toNat_ofNat', Nat.mod_eq_of_lt (by omega)]
  rw [hcell] at hb
  exact hb
theorem bk_string (B b : Nat) (l : List UInt8) (w : World) (h : Lib.IsBuilderF 101 5 B b (Lib.byteCells l) w) (hBw : B ≤ w.heap.size) :
    Calls Tryd.prog 67 #[.pointer (some ⟨b, 0, none⟩)] w fun e w' => e = .returned (.string (ofL l)) ∧ Lib.IsBuilderF 101 5 B b (Lib.byteCells l) w' ∧ Below B w w' ∧ Lib.OthersKept 5 (some b) w w' := Tryd.Builder_String_any_k B b l w h hBw
theorem fresh_isBuilderF (w : World) : Lib.IsBuilderF 101 5 w.heap.size w.heap.size (Lib.byteCells []) (w.alloc (.cells #[.pointer none, .slice none 0 0] 101)) := Lib.IsBuilderF.of (Lib.fresh_isBuilder 101 5 w)
end Go.Proofs.YtmnpbpfeoackiaaDoor
