/-
  Packages token and bundle in plain words over lists: what is put. No program in sight.
-/
import Derived.Test.YtmnpbpfeoackiaaDoorFldPlain
import Derived.Test.YtmnpbpfeoackiaaDoorGen
namespace Go.Proofs.YtmnpbpfeoackiaaDoor
open Go.RowKit

def longL (x : LinkL) : Bool := if x.2 = [] then decide (2048 < x.1.length) else decide (4144 < x.1.length) || decide (4144 < x.2.length)
def linkPut (x : LinkL) : List UInt8 := if x.2 = [] then 0 :: fText x.1 else 1 :: (fText x.1 ++ fText x.2)
def linksPut (l : List LinkL) : List UInt8 := l.flatMap linkPut
def tokHead (id : List UInt8) (l : List LinkL) : List UInt8 := fText id ++ vput l.length ++ linksPut l
def tokBad (t : TokL) : Bool := decide (4144 < t.id.length) || decide (64 < t.links.length) || t.links.any longL
def tokPutR (t : TokL) : List UInt8 × Nat := if tokBad t then ([], 3) else if t.tag.length = 32 then (tokHead t.id t.links ++ t.tag, 0) else ([], 7)
def tokSize (t : TokL) : Nat := if tokBad t then 0 else (tokHead t.id t.links).length + 32
theorem linksPut_append (a b : List LinkL) : linksPut (a ++ b) = linksPut a ++ linksPut b := by simp [linksPut]
theorem linksPut_one (x : LinkL) : linksPut [x] = linkPut x := by simp [linksPut]
theorem len_fText (a : List UInt8) : a.length + 1 ≤ (fText a).length := by
  unfold fText
  have := vput_pos a.length
  rw [List.length_append]; omega
/-! ### a bundle -/
def moresPut : List TokL → List UInt8 × Nat
  | [] => ([], 0)
  | d :: r => if (tokPutR d).2 = 0 then (if (moresPut r).2 = 0 then (fText (tokPutR d).1 ++ (moresPut r).1, 0) else ([], (moresPut r).2)) else ([], (tokPutR d).2)
def bunPut0 (t : TokL) (more : List TokL) : List UInt8 × Nat :=
  if 8 < more.length then ([], 3) else if (tokPutR t).2 = 0 then (if (moresPut more).2 = 0 then (fText (tokPutR t).1 ++ vput more.length ++ (moresPut more).1, 0) else ([], (moresPut more).2)) else ([], (tokPutR t).2)
def bunPutR (t : TokL) (more : List TokL) : List UInt8 × Nat := if (bunPut0 t more).2 = 0 ∧ 65536 < (bunPut0 t more).1.length then ([], 3) else bunPut0 t more
end Go.Proofs.YtmnpbpfeoackiaaDoor
