/-
  Package sha's reference: the words at first. No condition.
-/
import Derived.Test.YteffocenfkcofaaDoorSha3
namespace Go.Proofs.YteffocenfkcofaaDoor
open Go.RowKit

set_option maxRecDepth 100000 in
set_option maxHeartbeats 1000000 in
theorem rfirst_any (w : World) : Calls Tryd.prog 82 #[] w fun e w' => e = .returned (stV initS) ∧ Ext w w' := by
  go_enter Tryd.func82, Tryd.ntmps82
  go_wp2
  refine bodyPost_ret (v := stV initS) (by simp [results, Tryd.results82, go_sem]; decide) rfl ?_
  exact ⟨rfl, (Ext.rfl' _).al _⟩

end Go.Proofs.YteffocenfkcofaaDoor
