/-
  The laws RootidPuts and RootidBack return true at every input. No condition but the reach of strings and structs.
-/
import Derived.Test.YtjpcedgonjmchaaRootLaw
import Derived.Test.YtjpcedgonjmchaaRow
import Derived.Laws.StructEq
import Derived.Lib.SmallJoins
namespace Go.Proofs.Ytjpcedgonjmchaa
open Go.RowKit Go.ChangeShapes Go.WideShapes

def rootEq (a b : Root) : Bool := a.t == b.t && (a.k == b.k && (a.e == b.e && a.n == b.n))
theorem rootEq_self (a : Root) : rootEq a a = true := by simp [rootEq]
theorem rootEq_iff (a b : Root) : rootEq a b = true ↔ a = b := by
  obtain ⟨t, k, e, n⟩ := a
  obtain ⟨t', k', e', n'⟩ := b
  simp [rootEq]

theorem root_fields : Try.prog.fieldsOf 23 = (match Try.prog.underlying 23 with | some (.struct fs) => fs | _ => #[]) := rfl
set_option maxRecDepth 100000 in
theorem root_eqIn (a b : Root) (W : World) : (Op.equalIn 10000 23 (rootV a) (rootV b)).run Try.prog W = .ok (rootEq a b) W := by
  obtain ⟨t, k, e, n⟩ := a
  obtain ⟨t', k', e', n'⟩ := b
  have hu : Try.prog.underlying 23 = some (.struct (Try.prog.fieldsOf 23)) := by rw [root_fields, Try.underlying23]
  have hb : ((ofL t).toList == (ofL t').toList) = (t == t') := by rw [toList_eq_toL, toList_eq_toL, toL_ofL, toL_ofL]
  rw [run_equalIn_agg W 9999 _ _ _ hu (by kernel_rfl), root_fields, Try.underlying23]
  have hs : Try.prog.underlying 9 = some .string := Try.underlying9
  have hi : Try.prog.underlying 3 = some (.int .i64) := Try.underlying3
  have h1 := fun (W : World) => run_equalIn_string (P := Try.prog) W 9998 _ (ofL t) (ofL t') hs
  have h2 := fun (W : World) (a b : Int) => run_equalIn_int (P := Try.prog) W 9998 _ .i64 .i64 a b hi
  cases q1 : (t == t')
  · simp [Op.eqFields, go_sem, hb, q1, rootEq]
  · cases q2 : (k == k')
    · simp [Op.eqFields, go_sem, hb, q1, q2, rootEq]
    · cases q3 : (e == e')
      · simp [Op.eqFields, go_sem, hb, q1, q2, q3, rootEq]
      · cases q4 : (n == n')
        · simp [Op.eqFields, go_sem, hb, q1, q2, q3, q4, rootEq]
        · simp [Op.eqFields, go_sem, hb, q1, q2, q3, q4, rootEq]
theorem root_eql (a b : Root) (W : World) : (binOp .eql 23 (rootV a) (rootV b)).run Try.prog W = .ok (.bool (rootEq a b)) W := by
  rw [run_eql_struct, root_eqIn]; rfl
theorem root_neq (a b : Root) (W : World) : (binOp .neq 23 (rootV a) (rootV b)).run Try.prog W = .ok (.bool (!rootEq a b)) W := by
  rw [run_neq_struct, root_eqIn]; rfl
end Go.Proofs.Ytjpcedgonjmchaa
