/-
  Plain functions that stand for package field's reader and its reference. No program in sight. No condition.
-/
import Derived.Test.YtmnpbpfeoackiaaVarPlain
namespace Go.Proofs.Ytmnpbpfeoackiaa

/-- What a reader holds: what is left, what was wrong first. -/
abbrev RS := List UInt8 × Int
def rFail (x : RS) (e : Int) : RS := if x.2 ≠ 0 ∨ e = 0 then x else ([], e)
/-- A number of at most 'most'. -/
def rNum (x : RS) (most : Nat) : Nat × RS :=
  if x.2 ≠ 0 then (0, x)
  else if (vtake x.1).2.2 ≠ 0 then (0, ([], ((vtake x.1).2.2 : Int)))
  else if most < (vtake x.1).1 then (0, ([], 3))
  else ((vtake x.1).1, (x.1.drop (vtake x.1).2.1, 0))
def rText (x : RS) (most : Int) : List UInt8 × RS :=
  if (rNum x most.toNat).2.2 ≠ 0 then ([], (rNum x most.toNat).2)
  else if (rNum x most.toNat).2.1.length < (rNum x most.toNat).1 then ([], ([], 1))
  else ((rNum x most.toNat).2.1.take (rNum x most.toNat).1, ((rNum x most.toNat).2.1.drop (rNum x most.toNat).1, 0))
def rByte (x : RS) : UInt8 × RS :=
  if x.2 ≠ 0 then (0, x) else if x.1 = [] then (0, ([], 1)) else (x.1.headD 0, (x.1.drop 1, 0))
def rEnd (x : RS) : RS := if x.1 ≠ [] then rFail x 2 else x

theorem rNum_bad {x : RS} (most : Nat) (h : x.2 ≠ 0) : rNum x most = (0, x) := if_pos h
theorem rText_bad {x : RS} (most : Int) (h : x.2 ≠ 0) : rText x most = ([], x) := by
  unfold rText; rw [rNum_bad _ h, if_pos h]
theorem rByte_bad {x : RS} (h : x.2 ≠ 0) : rByte x = (0, x) := if_pos h
theorem rFail_bad {x : RS} (e : Int) (h : x.2 ≠ 0) : rFail x e = x := if_pos (Or.inl h)
theorem rNum_le (x : RS) (most : Nat) : (rNum x most).1 ≤ most := by
  unfold rNum
  split
  · simp
  · split
    · simp
    · split
      · simp
      · simp; omega
theorem rNum_len (x : RS) (most : Nat) : (rNum x most).2.1.length ≤ x.1.length := by
  unfold rNum
  split
  · simp
  · split
    · simp
    · split
      · simp
      · simp
/-- A text as a field: its length, then its bytes. -/
def fText (l : List UInt8) : List UInt8 := vput l.length ++ l
end Go.Proofs.Ytmnpbpfeoackiaa
