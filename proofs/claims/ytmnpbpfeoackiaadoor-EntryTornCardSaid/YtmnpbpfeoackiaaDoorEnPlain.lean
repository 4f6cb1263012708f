/-
  Entries in plain words: marks, blocks, the texts of an entry's frames, what is written and read. No program in sight.
-/
import Derived.Test.YtmnpbpfeoackiaaDoorTornPlain
import Derived.Test.YtmnpbpfeoackiaaDoorShaPlain
namespace Go.Proofs.YtmnpbpfeoackiaaDoor
open Go.RowKit

/-- The mark of an index. -/
def markN (gen index : Int) (head : Bool) : Int := if gen < 1 ∨ 1099511627776 < gen ∨ index < 0 ∨ 4095 < index then 0 else gen * 2097152 + 2 * index + (if head = true then 1 else 0)
theorem markN_bad {gen index : Int} {head : Bool} (h : gen < 1 ∨ 1099511627776 < gen ∨ index < 0 ∨ 4095 < index) : markN gen index head = 0 := if_pos h
theorem markN_ok {gen index : Int} {head : Bool} (h : ¬ (gen < 1 ∨ 1099511627776 < gen ∨ index < 0 ∨ 4095 < index)) : markN gen index head = gen * 2097152 + 2 * index + (if head = true then 1 else 0) := if_neg h
theorem markN_lt (gen index : Int) (head : Bool) : 0 ≤ markN gen index head ∧ markN gen index head < 9223372036854775808 := by
  unfold markN
  split
  · omega
  · split <;> omega
theorem markN_zero {gen index : Int} {head : Bool} : markN gen index head = 0 ↔ (gen < 1 ∨ 1099511627776 < gen ∨ index < 0 ∨ 4095 < index) := by
  constructor
  · intro h
    apply Classical.byContradiction
    intro hn
    rw [markN_ok hn] at h
    split at h <;> omega
  · exact markN_bad
/-- How many blocks a text has. -/
def blkN (n : Int) : Nat := if n < 0 ∨ 65536 < n then 0 else if n ≤ 102 then 1 else 1 + ((n + 7) / 110).toNat
theorem blkN_bad {n : Int} (h : n < 0 ∨ 65536 < n) : blkN n = 0 := if_pos h
theorem blkN_one {n : Int} (h1 : 0 ≤ n) (h2 : n ≤ 102) : blkN n = 1 := by unfold blkN; rw [if_neg (by omega), if_pos h2]
theorem blkN_more {n : Int} (h1 : 102 < n) (h2 : n ≤ 65536) : blkN n = 1 + ((n + 7) / 110).toNat := by unfold blkN; rw [if_neg (by omega), if_neg (by omega)]
theorem blkN_le (n : Int) : blkN n ≤ 596 := by
  unfold blkN
  split
  · omega
  · split <;> omega
theorem blkN_zero {n : Int} : blkN n = 0 ↔ (n < 0 ∨ 65536 < n) := by
  constructor
  · intro h
    apply Classical.byContradiction
    intro hn
    unfold blkN at h
    rw [if_neg hn] at h
    split at h <;> omega
  · exact blkN_bad
/-- The text of the head's frame. -/
def headE (s : List UInt8) : List UInt8 := leN 4 s.length ++ ((sumL s).take 4 ++ s.take 102)
theorem length_sumL (s : List UInt8) : (sumL s).length = 32 := length_tellS _
theorem length_headE (s : List UInt8) : (headE s).length = 8 + min 102 s.length := by
  unfold headE
  rw [List.length_append, List.length_append, length_leN, List.length_take, length_sumL, List.length_take]
  omega
/-- The texts of an entry's frames. -/
def partsE (s : List UInt8) : List (List UInt8) := headE s :: cutL 110 (s.drop 102)
theorem length_cut110 : ∀ (n : Nat) (l : List UInt8), l.length ≤ n → (cutL 110 l).length = (l.length + 109) / 110 := by
  intro n
  induction n with
  | zero =>
    intro l hl
    obtain rfl : l = [] := List.eq_nil_of_length_eq_zero (by omega)
    rfl
  | succ n ih =>
    intro l hl
    by_cases h0 : l.length = 0
    · obtain rfl : l = [] := List.eq_nil_of_length_eq_zero h0
      rfl
    · rw [cutL_cons (by omega) (by omega), List.length_cons, ih _ (by rw [List.length_drop]; omega), List.length_drop]
      by_cases h1 : l.length ≤ 110
      · rw [show l.length - 110 = 0 by omega]
        omega
      · omega
theorem length_partsE {s : List UInt8} (h : s.length ≤ 65536) : (partsE s).length = blkN s.length := by
  unfold partsE
  rw [List.length_cons, length_cut110 _ _ (Nat.le_refl _), List.length_drop]
  by_cases h1 : s.length ≤ 102
  · rw [blkN_one (by omega) (by omega), show s.length - 102 = 0 by omega]
  · rw [blkN_more (by omega) (by omega)]
    omega
theorem partsE_le (s : List UInt8) : ∀ t ∈ partsE s, t.length ≤ 110 := by
  intro t ht
  unfold partsE at ht
  rcases List.mem_cons.1 ht with rfl | ht
  · rw [length_headE]; omega
  · obtain ⟨k, hk, rfl⟩ := List.mem_iff_getElem.1 ht
    exact ((cutL_good (n := 110) (by omega) (s.drop 102)).2 k hk).2.1
/-- One block. -/
def frameE (gen index kind : Int) (k : Nat) (t : List UInt8) : List UInt8 := frBytes (markN gen (index + k) (k == 0)).toNat (if k = 0 then kind.toNat else 0) t
/-- The blocks of an entry. -/
def framesE (gen index kind : Int) (s : List UInt8) : List (List UInt8) := (partsE s).mapIdx (frameE gen index kind)
theorem length_framesE (gen index kind : Int) (s : List UInt8) : (framesE gen index kind s).length = (partsE s).length := by unfold framesE; exact List.length_mapIdx
theorem framesE_get {gen index kind : Int} {s : List UInt8} {k : Nat} (h : k < (partsE s).length) : (framesE gen index kind s)[k]? = some (frameE gen index kind k (partsE s)[k]) := by
  unfold framesE
  rw [List.getElem?_mapIdx, List.getElem?_eq_getElem h]
  rfl
theorem length_frameE {gen index kind : Int} {k : Nat} {t : List UInt8} (h : t.length ≤ 110) : (frameE gen index kind k t).length = 128 := length_frBytes h
/-- What is told of an entry that cannot be written. -/
def checkE (blocks from' gen index kind : Int) (n : Nat) : Nat :=
  if from' < 0 ∨ markN gen index true = 0 ∨ kind < 0 ∨ 255 < kind then 7
  else if 65536 < n then 3
  else if 4095 < index + blkN n - 1 ∨ blocks < from' ∨ blocks < from' + index + blkN n then 19
  else 0

/-! ### a disk -/
structure Dk where
  bs : List (List UInt8)
  cr : Option (Int × Nat)
  wr : Nat
  dn : Bool
/-- A block is written. -/
def Dk.put (d : Dk) (i : Nat) (b : List UInt8) : Dk × Nat :=
  if d.dn = true then (d, 20) else
  match d.cr with
  | some (a, keep) => if a = d.wr then (⟨d.bs.set i (tornL b (d.bs.getD i []) keep), d.cr, d.wr + 1, true⟩, 20) else (⟨d.bs.set i b, d.cr, d.wr + 1, false⟩, 0)
  | none => (⟨d.bs.set i b, d.cr, d.wr + 1, false⟩, 0)
/-- Blocks are written, until one fails. -/
def Dk.puts : Dk → List (Nat × List UInt8) → Dk × Nat
  | d, [] => (d, 0)
  | d, (i, b) :: r => if (d.put i b).2 = 0 then Dk.puts (d.put i b).1 r else d.put i b
/-- In which order an entry's blocks are written. -/
def orderE (p : Nat) (l : List (List UInt8)) : List (Nat × List UInt8) := (List.range l.length).map fun i => (p + (i + 1) % l.length, l.getD ((i + 1) % l.length) [])
def writeE (d : Dk) (from' gen index kind : Int) (s : List UInt8) : Dk × Nat :=
  if checkE d.bs.length from' gen index kind s.length ≠ 0 then (d, checkE d.bs.length from' gen index kind s.length)
  else d.puts (orderE (from' + index).toNat (framesE gen index kind s))

/-! ### what is read -/
/-- The texts of the frames behind the head. -/
def bodyE (bs : List (List UInt8)) (p : Nat) (gen index : Int) : Nat → Nat → Option (List (List UInt8))
  | _, 0 => some []
  | k, f + 1 => match bs[p + k]? with
    | none => none
    | some b => if (frGet b).2 = true ∧ (frGet b).1.m = markN gen (index + k) false ∧ (frGet b).1.k = 0 then (bodyE bs p gen index (k + 1) f).map ((frGet b).1.t :: ·) else none
/-- The entry at an index: its kind, its text, its number of blocks. -/
def readE (bs : List (List UInt8)) (from' gen index : Int) : Option (Int × List UInt8 × Nat) :=
  if from' < 0 ∨ markN gen index true = 0 ∨ (bs.length : Int) ≤ from' + index then none
  else
    let h := frGet (bs.getD (from' + index).toNat [])
    if h.2 = true ∧ h.1.m = markN gen index true ∧ 8 ≤ h.1.t.length ∧ blkN (numN (h.1.t.take 4)) ≠ 0 then
      match bodyE bs (from' + index).toNat gen index 1 (blkN (numN (h.1.t.take 4)) - 1) with
      | none => none
      | some ts => if (h.1.t.drop 8 ++ ts.flatten).length = numN (h.1.t.take 4) ∧ partsE (h.1.t.drop 8 ++ ts.flatten) = h.1.t :: ts then some (h.1.k, h.1.t.drop 8 ++ ts.flatten, blkN (numN (h.1.t.take 4))) else none
    else none
end Go.Proofs.YtmnpbpfeoackiaaDoor
