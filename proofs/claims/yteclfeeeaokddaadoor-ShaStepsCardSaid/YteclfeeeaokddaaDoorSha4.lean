/-
  Package sha's reference: the words at first. No condition.
-/
import Derived.Test.YteclfeeeaokddaaDoorSha3
namespace Go.Proofs.YteclfeeeaokddaaDoor
open Go.RowKit

set_option maxRecDepth 100000 in
set_option maxHeartbeats 1000000 in
theorem rfirst_any (w : World) : Calls Tryd.prog 17 #[] w fun e w' => e = .returned (stV initS) ∧ Ext w w' := by
  go_enter Tryd.func17, Tryd.ntmps17
  go_wp2
  refine bodyPost_ret (v := stV initS) (by simp [results, Tryd.results17, go_sem]; decide) rfl ?_
  exact ⟨rfl, (Ext.rfl' _).al _⟩

theorem long_nil (w : World) : Calls Tryd.prog 20 #[.pointer none] w fun e w' => e = .returned (.int .i64 0) ∧ w' = w := by
  go_enter Tryd.func20, Tryd.ntmps20
  go_wp2
  go_ret
  exact ⟨rfl, rfl⟩
end Go.Proofs.YteclfeeeaokddaaDoor
