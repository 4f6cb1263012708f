/-
  A region that draws its order, by one fact an operation, each over what its operands are and over no frame.
-/
import Derived.Test.YtmnpbpfeoackiaaInv5
namespace Go
open Go.Proofs.Ytmnpbpfeoackiaa

/-- Whether an operation writes a slot. -/
def hitsB : Option Tmp → Nat → Bool
  | some d, t => Nat.beq d t
  | none, _ => false
/-- What slot t holds behind the operations of r. -/
def fillAt : List Oper → (Nat → Value) → Nat → Act → Nat → Value
  | [], _, _, a, t => a.tmps.getD t undef
  | o :: r, u, k, a, t => cond (hitsB o.dst t) (u k) (fillAt r u (k + 1) a t)
def dstIn (n : Nat) : Option Tmp → Bool
  | some d => Nat.blt d n
  | none => true
def fillOk (r : List Oper) (n : Nat) : Bool := dstsOk (r.map (·.dst)) && r.all fun o => dstIn n o.dst

theorem hitsB_eq {d : Option Tmp} {t : Nat} : hitsB d t = true ↔ d = some t := by
  cases d with
  | none => simp [hitsB]
  | some d => simp [hitsB]
theorem put_size (a : Act) (d : Option Tmp) (v : Value) : (a.put d v).tmps.size = a.tmps.size := by
  cases d with
  | none => rfl
  | some d => simp [Act.put]
theorem put_ne (a : Act) (d : Option Tmp) (v : Value) {t : Nat} (h : d ≠ some t) : (a.put d v).tmps.getD t undef = a.tmps.getD t undef := by
  cases d with
  | none => rfl
  | some d =>
    have hd : d ≠ t := fun e => h (by rw [e])
    simp only [Act.put]
    rw [Array.getD_eq_getD_getElem?, Array.getD_eq_getD_getElem?, Array.getElem?_setIfInBounds_ne hd]
theorem put_eq (a : Act) (v : Value) {t : Nat} (h : t < a.tmps.size) : (a.put (some t) v).tmps.getD t undef = v := by
  simp only [Act.put]
  rw [Array.getD_eq_getD_getElem?, Array.getElem?_setIfInBounds_self_of_lt h]
  rfl
theorem fillOps_ne (u : Nat → Value) {t : Nat} : ∀ (r : List Oper) (k : Nat) (a : Act), (∀ o ∈ r, o.dst ≠ some t) → (fillOps r u k a).tmps.getD t undef = a.tmps.getD t undef
  | [], _, _, _ => rfl
  | o :: r, k, a, h => by
    unfold fillOps
    rw [fillOps_ne u r (k + 1) _ fun o' ho => h o' (List.mem_cons_of_mem _ ho), put_ne a o.dst _ (h o List.mem_cons_self)]
theorem fillAt_eq (u : Nat → Value) (t : Nat) : ∀ (r : List Oper) (k : Nat) (a b : Act), a.tmps.size = b.tmps.size → a.tmps.getD t undef = b.tmps.getD t undef → fillOk r a.tmps.size = true → (fillOps r u k a).tmps.getD t undef = fillAt r u k b t
  | [], _, _, _, _, h, _ => h
  | o :: r, k, a, b, hs, h, hf => by
    have hf' : fillOk r a.tmps.size = true ∧ dstIn a.tmps.size o.dst = true ∧ ∀ d, o.dst = some d → ∀ o' ∈ r, o'.dst ≠ some d := by
      unfold fillOk at hf ⊢
      simp only [List.map_cons, List.all_cons, Bool.and_eq_true] at hf
      obtain ⟨h1, h2, h3⟩ := hf
      cases hd : o.dst with
      | none =>
        rw [hd] at h1
        exact ⟨by rw [Bool.and_eq_true]; exact ⟨h1, h3⟩, rfl, fun d h => by cases h⟩
      | some d =>
        rw [hd] at h1 h2
        simp only [dstsOk, Bool.and_eq_true, Bool.not_eq_true'] at h1
        refine ⟨by rw [Bool.and_eq_true]; exact ⟨h1.2, h3⟩, h2, fun d' h o' ho he => ?_⟩
        cases h
        have hc : (r.map (·.dst)).contains (some d) = true := by
          rw [List.contains_iff_mem]
          exact List.mem_map.2 ⟨o', ho, he⟩
        rw [h1.1] at hc
        cases hc
    unfold fillOps fillAt
    cases hb : hitsB o.dst t with
    | true =>
      have hd := hitsB_eq.1 hb
      have hlt : t < a.tmps.size := by
        have := hf'.2.1
        rw [hd] at this
        simpa [dstIn] using this
      rw [fillOps_ne u r (k + 1) _ (hf'.2.2 t hd), hd, put_eq a _ hlt]
      rfl
    | false =>
      have hd : o.dst ≠ some t := fun e => by rw [hitsB_eq.2 e] at hb; cases hb
      show _ = fillAt r u (k + 1) b t
      exact fillAt_eq u t r (k + 1) _ b (by rw [put_size]; exact hs) (by rw [put_ne a _ _ hd]; exact h) (by rw [put_size]; exact hf'.1)

section
variable {P : Program} {ops : Array Oper} {w0 : World} {V : Nat → Value → World → Prop} {a0 : Act}

/-- As OpLeaves, of an operation that nothing guards, over what its operands are. -/
def EvLeaves (P : Program) (V : Value → World → Prop) (o : Oper) (ev : Operand → Value) (w : World) : Prop :=
  (∃ v w', (execOp ev o).run P w = .ok (.value v) w' ∧ Ext w w' ∧ V v w') ∨
   (∃ w', (execOp ev o).run P w = .ok .skip w' ∧ Ext w w' ∧ V undef w') ∨
   (∃ f args w', (execOp ev o).run P w = .ok (.enter f args) w' ∧ Calls P f args w' fun e w'' => ∃ v, e = .returned v ∧ Ext w w'' ∧ V v w'')
theorem ev_val {o : Oper} {ev : Operand → Value} {w : World} {Vi : Value → World → Prop} {v : Value} (h : (execOp ev o).run P w = .ok (.value v) w) (hv : Vi v w) : EvLeaves P Vi o ev w :=
  .inl ⟨v, w, h, Ext.rfl' w, hv⟩
theorem ev_new {o : Oper} {ev : Operand → Value} {w w' : World} {Vi : Value → World → Prop} {v : Value} (h : (execOp ev o).run P w = .ok (.value v) w') (hE : Ext w w') (hv : Vi v w') : EvLeaves P Vi o ev w :=
  .inl ⟨v, w', h, hE, hv⟩
theorem ev_call {o : Oper} {ev : Operand → Value} {w : World} {Vi : Value → World → Prop} {f : FuncId} {args : Array Value} (h : (execOp ev o).run P w = .ok (.enter f args) w)
    (hc : Calls P f args w fun e w'' => ∃ v, e = .returned v ∧ Ext w w'' ∧ Vi v w'') : EvLeaves P Vi o ev w :=
  .inr (.inr ⟨f, args, w, h, hc⟩)

/-- The fact of one operation, over its operands. -/
theorem opLeaves_ev {r0 : List Oper} {u : Nat → Value} {Vi : Value → World → Prop} {o : Oper} {w : World} (hf : fillOk r0 a0.tmps.size = true) (hg : o.guard = none)
    (h : ∀ ev : Operand → Value, (∀ v, ev (.const v) = v) → (∀ g, ev (.global g) = .pointer (some ⟨g, 0, none⟩)) → (∀ f, ev (.func f) = .func (.func f) #[] #[]) → (∀ t, ev (.tmp t) = fillAt r0 u 0 a0 t) → EvLeaves P Vi o ev w) : OpLeaves P ops Vi o (fillOps r0 u 0 a0) w :=
  .inl ⟨by simp [Region.wanted, hg], h (fillOps r0 u 0 a0).eval (fun _ => rfl) (fun _ => rfl) (fun _ => rfl) fun t => fillAt_eq u t r0 0 a0 a0 rfl rfl hf⟩

theorem wp_region_tailsE {Q : Exit → Act → World → Prop} {id : Nat} {w : World} (V : Nat → Value → World → Prop) (n : Nat) (hm : P.follows .mixedOrders = true)
    (hs : Region.sinkB .any ops n = true) (hc : Region.chainB .any ops n = true) (hn : n < ops.size) (hseq : Region.seqB .any ops (ops.size - n) n (headDone n (ops.size - n)) = true)
    (hd : dstsOk ((ops.toList.take n).map (·.dst)) = true) (ha : aftersOk ops.toList 0 = true) (hf : fillOk (ops.toList.take n) a0.tmps.size = true)
    (hst : ∀ k v w1 w2, Ext w w1 → Ext w1 w2 → V k v w1 → V k v w2) (hl : fillOk (ops.toList.take n) a0.tmps.size = true → LocalsR P ops w V (ops.toList.take n) a0 (ops.toList.take n) 0)
    (hE : ∀ u w', Ext w w' → (∀ k, k < n → V k (u k) w') → wpList P ops Q (ops.toList.drop n) (fillOps (ops.toList.take n) u 0 a0) w') : (Code.region id ops true).wp P Q a0 w :=
  wp_region_tails V n hm hs hc hn hseq hd ha hst (hl hf) hE
theorem wp_region_localsE {Q : Exit → Act → World → Prop} {id : Nat} {w : World} (V : Nat → Value → World → Prop) (hm : P.follows .mixedOrders = true)
    (hd : dstsOk (ops.toList.map (·.dst)) = true) (ha : aftersOk ops.toList 0 = true) (hf : fillOk ops.toList a0.tmps.size = true)
    (hst : ∀ k v w1 w2, Ext w w1 → Ext w1 w2 → V k v w1 → V k v w2) (hl : fillOk ops.toList a0.tmps.size = true → Locals P ops w V a0 ops.toList 0)
    (hE : ∀ u w', Ext w w' → (∀ k, k < ops.size → V k (u k) w') → Q .normal (fillOps ops.toList u 0 a0) w') : (Code.region id ops true).wp P Q a0 w :=
  wp_region_locals V hm hd ha hst (hl hf) hE
end
end Go
