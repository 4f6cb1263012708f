/-
  An operation at a step of a region that turns a block and yields nothing. No condition.
-/
import Derived.Test.YtmnpbpfeoackiaaInvS
namespace Go
open Go.Proofs.Ytmnpbpfeoackiaa Go.RowKit
section
variable {P : Program} {ops : Array Oper} {J : List Bool → World → Prop} {V : List Bool → Nat → Value → World → Prop} {a0 : Act} {cs : List Nat}
/-- What an operation that turns is to leave. -/
structure TurnOk (P : Program) (ops : Array Oper) (o : Oper) (a : Act) (w : World) (J' : World → Prop) (Vi : Value → World → Prop) (Keep : World → Prop) : Prop where
  want : Region.wanted o (yielded ops a.tmps) = true
  step : ∀ (K : Act → World → Prop) (Q : Exit → Act → World → Prop), (∀ v w', J' w' → Vi v w' → Keep w' → K (a.put o.dst v) w') → o.wp P a w K Q
theorem turnOk_skip {o : Oper} {a : Act} {w w' : World} {J' : World → Prop} {Vi : Value → World → Prop} {Keep : World → Prop} (hg : o.guard = none) (hr : (execOp a.eval o).run P w = .ok .skip w') (h1 : J' w') (h2 : Vi undef w') (h3 : Keep w') : TurnOk P ops o a w J' Vi Keep :=
  ⟨by simp [Region.wanted, hg], fun _ _ h => turn_skip hr (h _ _ h1 h2 h3)⟩
theorem localsQ_turnT {o : Oper} {r : List Oper} {i : Nat} (p : Nat) (hp : cs[p]? = some i) (hu : ∀ (q : Nat), cs[q]? = some i → q = p)
    (h : ∀ (bs : List Bool) (u : Nat → Value) (w : World), bs.length = cs.length → bs[p]? = some false → J bs w → (∀ k, (o.after.any fun e => Region.binds .any e && e.on == k) = true → V bs k (u k) w) →
      (∀ (q j : Nat), bs[q]? = some true → cs[q]? = some j → V bs j (u j) w) →
      TurnOk P ops o (fillOps ops.toList u 0 a0) w (J (bs.set p true)) (V (bs.set p true) i) (fun w' => ∀ k, V bs k (u k) w → V (bs.set p true) k (u k) w'))
    (hr : LocalsQ P ops J V cs a0 r (i + 1)) : LocalsQ P ops J V cs a0 (o :: r) i :=
  localsQ_turn p hp hu (fun bs u w a b c d e => ⟨(h bs u w a b c d e).want, (h bs u w a b c d e).step⟩) hr
end
end Go
