/-
  A region that draws its order: a guarded operation over what its operands are and over no frame.
-/
import Derived.Test.YtmnpbpfeoackiaaInvE
namespace Go
open Go.Proofs.Ytmnpbpfeoackiaa
section
variable {P : Program} {ops : Array Oper} {a0 : Act}
theorem getD_some {tmps : Array Value} {d : Nat} {b : Bool} (h : tmps.getD d undef = .bool b) : tmps[d]? = some (.bool b) := by
  rw [Array.getD_eq_getD_getElem?] at h
  cases hx : tmps[d]? with
  | none => rw [hx] at h; cases h
  | some v => rw [hx] at h; rw [show v = .bool b from h]
theorem opLeaves_evG {r0 : List Oper} {u : Nat → Value} {Vi : Value → World → Prop} {o : Oper} {w : World} {g d : Nat} {b : Bool} (hf : fillOk r0 a0.tmps.size = true) (hg : o.guard = some (g, b)) (hd : (ops[g]?).bind (·.dst) = some d) (hu : fillAt r0 u 0 a0 d = .bool b)
    (h : ∀ ev : Operand → Value, (∀ v, ev (.const v) = v) → (∀ g, ev (.global g) = .pointer (some ⟨g, 0, none⟩)) → (∀ f, ev (.func f) = .func (.func f) #[] #[]) → (∀ t, ev (.tmp t) = fillAt r0 u 0 a0 t) → EvLeaves P Vi o ev w) : OpLeaves P ops Vi o (fillOps r0 u 0 a0) w := by
  refine .inl ⟨?_, h (fillOps r0 u 0 a0).eval (fun _ => rfl) (fun _ => rfl) (fun _ => rfl) fun t => fillAt_eq u t r0 0 a0 a0 rfl rfl hf⟩
  have e := fillAt_eq u d r0 0 a0 a0 rfl rfl hf
  rw [hu] at e
  have hy : yielded ops (fillOps r0 u 0 a0).tmps g = some b := by
    unfold yielded
    rw [hd, Option.bind_some, getD_some e]
  unfold Region.wanted
  rw [hg]
  show (yielded ops (fillOps r0 u 0 a0).tmps g == some b) = true
  rw [hy]
  exact beq_self_eq_true _
theorem opLeaves_evOff {r0 : List Oper} {u : Nat → Value} {Vi : Value → World → Prop} {o : Oper} {w : World} {g d : Nat} {b : Bool} {x : Value} (hf : fillOk r0 a0.tmps.size = true) (hg : o.guard = some (g, b)) (hd : (ops[g]?).bind (·.dst) = some d) (hu : fillAt r0 u 0 a0 d = x) (hx : x ≠ .bool b) (hv : Vi undef w) :
    OpLeaves P ops Vi o (fillOps r0 u 0 a0) w := by
  refine .inr ⟨?_, hv⟩
  have e := fillAt_eq u d r0 0 a0 a0 rfl rfl hf
  rw [hu] at e
  unfold Region.wanted
  rw [hg]
  show (yielded ops (fillOps r0 u 0 a0).tmps g == some b) = false
  unfold yielded
  rw [hd, Option.bind_some]
  rw [Array.getD_eq_getD_getElem?] at e
  cases hy : (fillOps r0 u 0 a0).tmps[d]? with
  | none => rfl
  | some v =>
    rw [hy] at e
    obtain rfl : v = x := e
    cases v with
    | bool c =>
      have : c ≠ b := fun h => hx (by rw [h])
      show (some c == some b) = false
      cases c <;> cases b <;> first | rfl | exact absurd rfl this
    | _ => rfl
end
end Go
