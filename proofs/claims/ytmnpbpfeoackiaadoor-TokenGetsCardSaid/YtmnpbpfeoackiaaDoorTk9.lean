/-
  The statements on tokens, over arguments as they come in. Condition: the library's variable errors.errorType holds the type of error.
-/
import Derived.Test.YtmnpbpfeoackiaaDoorTk8
namespace Go.Proofs.YtmnpbpfeoackiaaDoor
open Go.RowKit

theorem tokenGets_walk2 (s : ByteArray) (w : World) (hT : ErrT w) (hs : s.size ≤ 9223372036854775807) : Calls Tryd.prog 4 #[.string s] w fun e w' => e = .returned (.bool true) ∧ Ext w w' := by
  have h := tokenGets_walk (toL s) w hT (by rw [length_toL]; exact hs)
  rw [ofL_toL] at h
  exact h
theorem tokenPuts_walk2 (t : TokA) (w : World) (hT : ErrT w) (ht : TokOk w t) : Calls Tryd.prog 3 #[tokAV t] w fun e w' => e = .returned (.bool true) ∧ Ext w w' := tokenPuts_walk t.id t.tag t.A t.c t.l w hT ht.1
theorem tokenBack_walk2 (t : TokA) (s : ByteArray) (w : World) (hT : ErrT w) (ht : TokOk w t) (hs : s.size ≤ 9223372036854775807) : Calls Tryd.prog 5 #[tokAV t, .string s] w fun e w' => e = .returned (.bool true) ∧ Ext w w' := by
  have h := tokenBack_walk t.id t.tag t.A t.c t.l (toL s) w hT ht.1 (by rw [length_toL]; exact hs)
  rw [ofL_toL] at h
  exact h
end Go.Proofs.YtmnpbpfeoackiaaDoor
