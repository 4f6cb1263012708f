/-
  Chapter 5's laws with their arguments as the rows hand them. Condition: the package's table holds the constants.
-/
import Derived.Test.YteffocenfkcofaaDoorSt6
import Derived.OpenShut
import Derived.ChangeArms
import Derived.ProofKit
namespace Go.Proofs.YteffocenfkcofaaDoor
open Go.RowKit Go.ChangeShapes Go.WideShapes

theorem int_le {n : Int} (h : (Lit.int .i64 n).wf = true) : n ≤ 9223372036854775807 := by
  have h1 : IntKind.i64.min = -9223372036854775808 := rfl
  have h2 : IntKind.i64.max = 9223372036854775807 := rfl
  simp only [Lit.wf, Bool.and_eq_true, decide_eq_true_eq] at h
  omega
theorem streamBytes_walk2 (a b : ByteArray) (z : Int) (w : World) (hT : Tab w) (_ha : a.size ≤ maxLen) (_hb : b.size ≤ maxLen) (hz : (Lit.int .i64 z).wf = true) : Calls Tryd.prog 8 #[.string a, .string b, .int .i64 z] w fun e w' => e = .returned (.bool true) ∧ Ext w w' := by
  have q := streamBytes_walk (toL a) (toL b) z w hT (int_le hz)
  rw [ofL_toL, ofL_toL] at q
  exact q
theorem streamBack_walk2 (a b c : ByteArray) (w : World) (hT : Tab w) (_ha : a.size ≤ maxLen) (_hb : b.size ≤ maxLen) (_hc : c.size ≤ maxLen) : Calls Tryd.prog 9 #[.string a, .string b, .string c] w fun e w' => e = .returned (.bool true) ∧ Ext w w' := by
  have q := streamBack_walk (toL a) (toL b) (toL c) w hT
  rw [ofL_toL, ofL_toL, ofL_toL] at q
  exact q
theorem streamBegins_walk2 (a b : ByteArray) (z : Int) (w : World) (hT : Tab w) (_ha : a.size ≤ maxLen) (_hb : b.size ≤ maxLen) (_hz : (Lit.int .i64 z).wf = true) : Calls Tryd.prog 10 #[.string a, .string b, .int .i64 z] w fun e w' => e = .returned (.bool true) ∧ Ext w w' := by
  have q := streamBegins_walk (toL a) (toL b) z w hT
  rw [ofL_toL, ofL_toL] at q
  exact q
end Go.Proofs.YteffocenfkcofaaDoor
