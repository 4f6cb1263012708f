/-
  Package field: Text, Num, and the reference's Text. Condition: texts of at most 1000000 bytes.
-/
import Derived.Test.YtmnpbpfeoackiaaVar
import Derived.Test.YtmnpbpfeoackiaaFldPlain
namespace Go.Proofs.Ytmnpbpfeoackiaa
open Go.RowKit

set_option maxHeartbeats 400000 in
theorem ftext_any (s : ByteArray) (w : World) (hs : s.size ≤ 1000000) :
    Calls Try.prog 39 #[.string s] w fun e w' => e = .returned (.string (ofL (fText (toL s)))) ∧ Ext w w' := by
  have hu : IntKind.u64.wrap (s.size : Int) = (s.size : Int) := U64.wrap (by show _ < _; omega)
  have hL := length_vput s.size
  have hL2 : (ofL (vput s.size)).size = (vput s.size).length := size_ofL _
  have hx : ofL (vput s.size) ++ s = ofL (fText (toL s)) := by
    apply toL_inj; rw [toL_append, toL_ofL, toL_ofL]; unfold fText; rw [length_toL]
  go_enter Try.func39, Try.ntmps39
  go_wp2_with fail
  refine (vput_any s.size _ (by show _ < _; omega)).mono ?_
  rintro e w1 ⟨rfl, hE⟩
  go_wp2
  go_ret
  exact ⟨by first | rfl | (rw [← hx]; rfl), hE⟩
set_option maxHeartbeats 400000 in
theorem r8Text_any (s : ByteArray) (w : World) (hs : s.size ≤ 1000000) :
    Calls Try.prog 44 #[.string s] w fun e w' => e = .returned (.string (ofL (fText (toL s)))) ∧ Ext w w' := by
  have hu : IntKind.u64.wrap (s.size : Int) = (s.size : Int) := U64.wrap (by show _ < _; omega)
  have hL := length_vput s.size
  have hL2 : (ofL (vput s.size)).size = (vput s.size).length := size_ofL _
  have hx : ofL (vput s.size) ++ s = ofL (fText (toL s)) := by
    apply toL_inj; rw [toL_append, toL_ofL, toL_ofL]; unfold fText; rw [length_toL]
  go_enter Try.func44, Try.ntmps44
  go_wp2_with fail
  refine (rvput_all s.size _ (by show _ < _; omega)).mono ?_
  rintro e w1 ⟨rfl, hE⟩
  go_wp2
  go_ret
  exact ⟨by first | rfl | (rw [← hx]; rfl), hE⟩
set_option maxHeartbeats 400000 in
theorem fnum_any (n : Nat) (w : World) (hn : U64 n) :
    Calls Try.prog 37 #[.int .u64 n] w fun e w' => e = .returned (.string (ofL (vput n))) ∧ Ext w w' := by
  go_enter Try.func37, Try.ntmps37
  go_wp2_with fail
  refine (vput_any n _ hn).mono ?_
  rintro e w1 ⟨rfl, hE⟩
  go_wp2
  go_ret
  exact ⟨rfl, hE⟩
end Go.Proofs.Ytmnpbpfeoackiaa
