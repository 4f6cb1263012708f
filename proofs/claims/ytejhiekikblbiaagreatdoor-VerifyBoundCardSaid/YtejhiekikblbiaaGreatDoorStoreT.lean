/-
  A token is stored into a block of a token's, at a step of a region. No condition.
-/
import Derived.Test.YtejhiekikblbiaaGreatDoorMgI
import Derived.Test.YtejhiekikblbiaaGreatDoorMgF
namespace Go
open Go.Proofs.YtejhiekikblbiaaGreatDoor Go.RowKit
section
variable {P : Program} {ops : Array Oper} {J : List Bool → World → Prop} {V : List Bool → Nat → Value → World → Prop} {a0 : Act} {cs : List Nat}
/-- What an operation that turns is to leave. -/
structure TurnOk (P : Program) (ops : Array Oper) (o : Oper) (a : Act) (w : World) (J' : World → Prop) (Vi : Value → World → Prop) (Keep : World → Prop) : Prop where
  want : Region.wanted o (yielded ops a.tmps) = true
  step : ∀ (K : Act → World → Prop) (Q : Exit → Act → World → Prop), (∀ v w', J' w' → Vi v w' → Keep w' → K (a.put o.dst v) w') → o.wp P a w K Q
theorem turnOk_skip {o : Oper} {a : Act} {w w' : World} {J' : World → Prop} {Vi : Value → World → Prop} {Keep : World → Prop} (hg : o.guard = none) (hr : (execOp a.eval o).run P w = .ok .skip w') (h1 : J' w') (h2 : Vi undef w') (h3 : Keep w') : TurnOk P ops o a w J' Vi Keep :=
  ⟨by simp [Region.wanted, hg], fun _ _ h => turn_skip hr (h _ _ h1 h2 h3)⟩
theorem localsQ_turnT {o : Oper} {r : List Oper} {i : Nat} (p : Nat) (hp : cs[p]? = some i) (hu : ∀ (q : Nat), cs[q]? = some i → q = p)
    (h : ∀ (bs : List Bool) (u : Nat → Value) (w : World), bs.length = cs.length → bs[p]? = some false → J bs w → (∀ k, (o.after.any fun e => Region.binds .any e && e.on == k) = true → V bs k (u k) w) →
      (∀ (q j : Nat), bs[q]? = some true → cs[q]? = some j → V bs j (u j) w) →
      TurnOk P ops o (fillOps ops.toList u 0 a0) w (J (bs.set p true)) (V (bs.set p true) i) (fun w' => ∀ k, V bs k (u k) w → V (bs.set p true) k (u k) w'))
    (hr : LocalsQ P ops J V cs a0 r (i + 1)) : LocalsQ P ops J V cs a0 (o :: r) i :=
  localsQ_turn p hp hu (fun bs u w a b c d e => ⟨(h bs u w a b c d e).want, (h bs u w a b c d e).step⟩) hr
end
end Go
namespace Go.Proofs.YtejhiekikblbiaaGreatDoor
open Go.RowKit

set_option maxRecDepth 100000 in
theorem run_store_tok {o : Oper} {a : Act} {W : World} {g : Nat} {p x : Operand} {b0 b2 : ByteArray} {A : Option Addr} {n c : Nat} {y0 y1 y2 : Value} (ho : o.op = Op.store 33 p x) (hp : a.eval p = .pointer (some ⟨g, 0, none⟩)) (hx : a.eval x = .agg #[.string b0, .slice A n c, .string b2]) (hA : Arr W g 33 [y0, y1, y2]) :
    (execOp a.eval o).run Tryz.prog W = .ok .skip (((W.setCell ⟨g, 0, none⟩ (.string b0)).setCell ⟨g, 1, none⟩ (.slice A n c)).setCell ⟨g, 2, none⟩ (.string b2)) := by
  have q0 := hA.cell 0; have q1 := hA.cell 1; have q2 := hA.cell 2
  have z0 := hA.frozen 0; have z1 := hA.frozen 1; have z2 := hA.frozen 2
  simp only [List.getElem?_cons_zero, List.getElem?_cons_succ] at q0 q1 q2
  simp only [execOp, ho]
  rw [hp, hx]
  simp [go_sem, q0, q1, q2, z0, z1, z2]
end Go.Proofs.YtejhiekikblbiaaGreatDoor
