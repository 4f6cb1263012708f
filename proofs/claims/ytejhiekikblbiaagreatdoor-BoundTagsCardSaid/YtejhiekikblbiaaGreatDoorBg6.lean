/-
  The statements on bounds, over arguments as they come in. Conditions: the library's variable errors.errorType holds the type of error; the package's table holds the constants.
-/
import Derived.Test.YtejhiekikblbiaaGreatDoorBg5
import Derived.Test.YtejhiekikblbiaaGreatDoorBun
namespace Go.Proofs.YtejhiekikblbiaaGreatDoor
open Go.RowKit

theorem boundTags_walk2 (s : ByteArray) (t : TokA) (Am : Option Addr) (cm : Nat) (more : List TokA) (w : World) (h : ErrT w ∧ Tab w) (hs : s.size ≤ 9223372036854775807) (ht : TokOk w t) (hr : Rd w w.heap.size 3 (.slice Am more.length cm) more.length (toksCells more)) (hm : ∀ x ∈ more, TokOk w x) :
    Calls Tryz.prog 6 #[.string s, bunV t.id (.slice t.A t.l.length t.c) t.tag (.slice Am more.length cm)] w fun e w' => e = .returned (.bool true) ∧ Ext w w' := by
  have q := boundTags_walk (toL s) t Am cm more w h.2 h.1 ht.1 ⟨hr, fun x hx => (hm x hx).1⟩ (by rw [length_toL]; exact hs)
  rw [ofL_toL] at q
  exact q
end Go.Proofs.YtejhiekikblbiaaGreatDoor
