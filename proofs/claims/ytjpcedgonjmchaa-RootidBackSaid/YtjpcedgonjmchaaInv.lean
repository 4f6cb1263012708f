/-
  A region that draws its order and holds calls that add blocks alone: where every operation, in whatever world that meets S, yields one value and leaves a world that meets S, one walk in one order is enough.
-/
import Derived.Test.YtjpcedgonjmchaaBase
import Derived.OrdersHeld
namespace Go

section
variable {P : Program} {ops : Array Oper} {md : Region.Mode} {S : World → Prop}

/-- In state a, in every world that meets S, operation o leaves v and a world that meets S. -/
def Grows (P : Program) (ops : Array Oper) (S : World → Prop) (o : Oper) (v : Value) (a : Act) : Prop :=
  (Region.wanted o (yielded ops a.tmps) = true ∧ ∀ w, S w →
    (∃ w', (execOp a.eval o).run P w = .ok (.value v) w' ∧ S w') ∨
    (v = undef ∧ ∃ w', (execOp a.eval o).run P w = .ok .skip w' ∧ S w') ∨
    (∃ f args w', (execOp a.eval o).run P w = .ok (.enter f args) w' ∧ Calls P f args w' fun e w'' => e = .returned v ∧ S w'')) ∨
  (Region.wanted o (yielded ops a.tmps) = false ∧ v = undef)

theorem Grows.of_same {o : Oper} {v : Value} {a a' : Act} (hy : Grows P ops S o v a) (he : execOp a'.eval o = execOp a.eval o)
    (hw : Region.wanted o (yielded ops a'.tmps) = Region.wanted o (yielded ops a.tmps)) : Grows P ops S o v a' := by
  unfold Grows at *
  rw [he, hw]
  exact hy

theorem Grows.wpOp {i : Nat} {o : Oper} {v : Value} {a : Act} {Q : Exit → Act → World → Prop} (hi : ops[i]? = some o) (hy : Grows P ops S o v a)
    {K : Act → World → Prop} {w : World} (hS : S w) (h : ∀ w', S w' → K (a.put o.dst v) w') : wpOp P ops Q i K a w := by
  unfold Go.wpOp
  simp only [hi]
  rcases hy with ⟨hw, hv⟩ | ⟨hw, rfl⟩
  · simp only [hw, if_true]
    left
    unfold Oper.wp
    rcases hv w hS with ⟨w', hr, hS'⟩ | ⟨rfl, w', hr, hS'⟩ | ⟨f, args, w', hr, hc⟩
    · rw [hr]; exact h w' hS'
    · rw [hr]; exact h w' hS'
    · rw [hr, Oper.upon_enter]
      refine hc.mono fun e w'' he => ?_
      obtain ⟨rfl, hS'⟩ := he
      exact h w'' hS'
  · simp only [hw, Bool.false_eq_true, if_false]; exact h w hS

/-- All orders from here on, no world in sight. -/
def wpU (P : Program) (md : Region.Mode) (ops : Array Oper) (S : World → Prop) (E : Act → Prop) : Nat → Array Bool → Act → Prop
  | 0, listed, a => Region.ready md ops listed = [] ∧ E a
  | fuel + 1, listed, a => (Region.ready md ops listed = [] → E a) ∧
    ∀ i ∈ Region.ready md ops listed, ∃ o v, ops[i]? = some o ∧ Grows P ops S o v a ∧ wpU P md ops S E fuel (listed.setIfInBounds i true) (a.put o.dst v)

variable {E : Act → Prop}
theorem wpAny_of_U {Q : Exit → Act → World → Prop} (hE : ∀ a w, E a → S w → Q .normal a w) : ∀ (fuel : Nat) (listed : Array Bool) (a : Act) (w : World), S w → wpU P md ops S E fuel listed a → wpAny P md ops Q fuel listed a w
  | 0, _, a, w, hS, h => ⟨h.1, hE a w h.2 hS⟩
  | fuel + 1, listed, a, w, hS, h => ⟨fun h0 => hE a w (h.1 h0) hS, fun i hi => by
    obtain ⟨o, v, ho, hg, hn⟩ := h.2 i hi
    exact hg.wpOp ho hS fun w' hS' => wpAny_of_U hE fuel _ _ w' hS' hn⟩

theorem wpU_first {i : Nat} {oi : Oper} {v : Value} (hi : ops[i]? = some oi) (hsel : ∀ (j : Nat) (o : Oper) cs b, ops[j]? = some o → o.op ≠ .select cs b) :
    ∀ (fuel : Nat) (listed : Array Bool) (a : Act),
      (∀ j oj, ops[j]? = some oj → j ≠ i → listed.getD j true = false → (∀ e ∈ oj.after, Region.binds md e = true → e.on ≠ i) → oi.apart ops oj = true) →
      i ∈ Region.ready md ops listed → Grows P ops S oi v a →
      wpU P md ops S E fuel (listed.setIfInBounds i true) (a.put oi.dst v) → wpU P md ops S E (fuel + 1) listed a := by
  intro fuel
  induction fuel with
  | zero =>
    intro listed a _ hr hy H
    refine ⟨fun h => (by rw [h] at hr; cases hr), fun j hj => ?_⟩
    by_cases hji : j = i
    · subst hji; exact ⟨oi, v, hi, hy, H⟩
    · have := ready_mono hj hji
      rw [H.1] at this
      cases this
  | succ fuel ih =>
    intro listed a hfree hr hy H
    refine ⟨fun h => (by rw [h] at hr; cases hr), fun j hj => ?_⟩
    by_cases hji : j = i
    · subst hji; exact ⟨oi, v, hi, hy, H⟩
    · obtain ⟨oj, u, hoj, hgj, hn⟩ := H.2 j (ready_mono hj hji)
      obtain ⟨hjun, oj', hoj', hall⟩ := mem_ready.1 hj
      obtain rfl : oj = oj' := by rw [hoj] at hoj'; exact Option.some.inj hoj'
      have hnot : ∀ e ∈ oj.after, Region.binds md e = true → e.on ≠ i := fun e he hb heq => by
        have h1 := hall e he hb
        have h0 := (mem_ready.1 hr).1
        rw [heq] at h1
        rcases Nat.lt_or_ge i listed.size with h' | h'
        · simp [h'] at h0 h1; rw [h0] at h1; cases h1
        · simp [Array.getElem?_eq_none h'] at h1
      obtain ⟨h1, h2, h3⟩ := Oper.apart_spec (hfree j oj hoj hji hjun hnot)
      have hgj' : Grows P ops S oj u a := hgj.of_same (execOp_put oj (fun cs b => hsel j oj cs b hoj) a oi.dst v h1).symm (wanted_put oj a oi.dst v h1).symm
      have hyi' : Grows P ops S oi v (a.put oj.dst u) := hy.of_same (execOp_put oi (fun cs b => hsel i oi cs b hi) a oj.dst u h3) (wanted_put oi a oj.dst u h3)
      have hfree' : ∀ k ok, ops[k]? = some ok → k ≠ i → (listed.setIfInBounds j true).getD k true = false →
          (∀ e ∈ ok.after, Region.binds md e = true → e.on ≠ i) → oi.apart ops ok = true := fun k ok hk hki hun hno => by
        refine hfree k ok hk hki ?_ hno
        by_cases hjk : j = k
        · subst hjk; exact hjun
        · rw [getD_set_ne true hjk] at hun; exact hun
      refine ⟨oj, u, hoj, hgj', ih (listed.setIfInBounds j true) (a.put oj.dst u) hfree' (ready_mono hr (Ne.symm hji)) hyi' ?_⟩
      rw [Array.setIfInBounds_comm _ _ hji, ← Act.put_comm a v u h2]
      exact hn

/-- Take number i next. -/
theorem wpU_take {i : Nat} {oi : Oper} {v : Value} {fuel : Nat} {listed : Array Bool} {a : Act} (hi : ops[i]? = some oi)
    (hs : Region.noSelect ops = true) (hf : Region.free md ops listed i = true) (hr : (Region.ready md ops listed).contains i = true)
    (hy : Grows P ops S oi v a) (h : wpU P md ops S E fuel (listed.setIfInBounds i true) (a.put oi.dst v)) : wpU P md ops S E (fuel + 1) listed a :=
  wpU_first hi (Region.noSelect_spec hs) fuel listed a (Region.free_spec hi hf) (by simpa using hr) hy h
theorem wpU_done {listed : Array Bool} {a : Act} (hr : Region.ready md ops listed = []) (h : E a) : wpU P md ops S E 0 listed a := ⟨hr, h⟩
/-- The whole region. -/
theorem wp_region_inv {Q : Exit → Act → World → Prop} {id : Nat} {a : Act} {w : World} (hm : P.follows .mixedOrders = true) (hS : S w.drew)
    (hE : ∀ a w, E a → S w → Q .normal a w)
    (h : wpU P .any ops S E ops.size (Array.replicate ops.size false) a) : (Code.region id ops true).wp P Q a w :=
  wp_region_any hm (wpAny_of_U hE _ _ _ _ hS h)

theorem grows_val {o : Oper} {v : Value} {a : Act} (hw : Region.wanted o (yielded ops a.tmps) = true) (h : ∀ w, S w → (execOp a.eval o).run P w = .ok (.value v) w) : Grows P ops S o v a :=
  .inl ⟨hw, fun w hS => .inl ⟨w, h w hS, hS⟩⟩
theorem grows_call {o : Oper} {v : Value} {a : Act} (f : FuncId) (args : Array Value) (hw : Region.wanted o (yielded ops a.tmps) = true) (hr : ∀ w, (execOp a.eval o).run P w = .ok (.enter f args) w)
    (h : ∀ w, S w → Calls P f args w fun e w' => e = .returned v ∧ S w') : Grows P ops S o v a :=
  .inl ⟨hw, fun w hS => .inr (.inr ⟨f, args, w, hr w, h w hS⟩)⟩
/-- The whole region, what stands behind it said of every world that meets S. -/
theorem wp_region_inv' {Q : Exit → Act → World → Prop} {id : Nat} {a : Act} {w : World} (hm : P.follows .mixedOrders = true) (hS : S w.drew)
    (h : wpU P .any ops S (fun a => ∀ w, S w → Q .normal a w) ops.size (Array.replicate ops.size false) a) : (Code.region id ops true).wp P Q a w :=
  wp_region_inv hm hS (fun a w hE hS => hE w hS) h
end
end Go
