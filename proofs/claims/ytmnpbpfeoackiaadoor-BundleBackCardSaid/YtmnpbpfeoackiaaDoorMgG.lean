/-
  A region that draws its order, by one fact an operation: if every operation, run in any world that extends the first one and where what it waits for holds, only adds to the world and leaves what is said of it, then behind the region all that is said holds. No order is walked. · A region that draws its order, where some operations (cs) turn what the region itself has made (an append in place, a store): what is said of each value may hang on which of cs have run. One local fact an operation; no order is walked. · A region that draws its order and whose world is told by which operations have run: if every operation, run where what it waits for has run, leaves its one value and the world that is told next, then behind the region all values stand and the world is the last one. No order is walked. · A region that draws its order, whose first n operations only add to the world, and whose other operations come last, one behind the other: the first ones by one fact an operation, the last ones as a plain list. No order is walked. · A region that draws its order, where some of the first n operations (cs) turn what the region itself has made (an append in place), and whose other operations come last, one behind the other: the first ones by one local fact an operation, the last ones as a plain list. No order is walked.
-/
import Derived.Test.YtmnpbpfeoackiaaDoorBase
import Derived.OrdersHeld
import Derived.StillTail
namespace Go
open Go.Proofs.YtmnpbpfeoackiaaDoor

/-- The frame with every operation's slot filled. -/
@[go_sem] def fillOps : List Oper → (Nat → Value) → Nat → Act → Act
  | [], _, _, a => a
  | o :: r, u, k, a => fillOps r u (k + 1) (a.put o.dst (u k))
/-- No two operations write one slot, and each waits for earlier ones alone. -/
def dstsOk : List (Option Tmp) → Bool
  | [] => true
  | none :: r => dstsOk r
  | some d :: r => !(r.contains (some d)) && dstsOk r
def aftersOk : List Oper → Nat → Bool
  | [], _ => true
  | o :: r, k => o.after.all (fun e => decide (e.on < k)) && aftersOk r (k + 1)

theorem put_put (a : Act) (d : Option Tmp) (x v : Value) : (a.put d x).put d v = a.put d v := by
  cases d with
  | none => rfl
  | some d => simp [Act.put]
theorem fill_put (u : Nat → Value) (v : Value) (d : Option Tmp) : ∀ (r : List Oper) (k : Nat) (a : Act), (∀ o ∈ r, o.dst = d → d = none) → (fillOps r u k a).put d v = fillOps r u k (a.put d v)
  | [], _, _, _ => rfl
  | o :: r, k, a, h => by
    unfold fillOps
    rw [fill_put u v d r (k + 1) _ (fun o' ho => h o' (List.mem_cons_of_mem _ ho))]
    congr 1
    by_cases hd : d = none
    · subst hd; rfl
    · refine Act.put_comm a (u k) v fun t ht he => ?_
      exact hd (h o List.mem_cons_self (ht.trans he.symm))
theorem fill_congr (u u' : Nat → Value) : ∀ (r : List Oper) (k : Nat) (a : Act), (∀ j, k ≤ j → u j = u' j) → fillOps r u k a = fillOps r u' k a
  | [], _, _, _ => rfl
  | o :: r, k, a, h => by
    unfold fillOps
    rw [h k (Nat.le_refl _)]
    exact fill_congr u u' r (k + 1) _ fun j hj => h j (by omega)
theorem fill_id (u : Nat → Value) : ∀ (r : List Oper) (k : Nat) (a : Act), (∀ j o, r[j]? = some o → a.put o.dst (u (k + j)) = a) → fillOps r u k a = a
  | [], _, _, _ => rfl
  | o :: r, k, a, h => by
    unfold fillOps
    rw [show a.put o.dst (u k) = a from h 0 o rfl]
    exact fill_id u r (k + 1) a fun j o' hj => by
      have := h (j + 1) o' (by simpa using hj)
      rw [show k + 1 + j = k + (j + 1) by omega]
      exact this
def upd (u : Nat → Value) (i : Nat) (v : Value) : Nat → Value := fun j => if j = i then v else u j
theorem upd_same (u i v) : upd u i v i = v := if_pos rfl
theorem upd_ne {u i v j} (h : j ≠ i) : upd u i v j = u j := if_neg h
theorem fill_upd (u : Nat → Value) (v : Value) : ∀ (r : List Oper) (k i : Nat) (a : Act) (o : Oper), dstsOk (r.map (·.dst)) = true → r[i]? = some o → (fillOps r u k a).put o.dst v = fillOps r (upd u (k + i) v) k a
  | [], _, _, _, _, _, h => by cases h
  | o' :: r, k, 0, a, o, hd, h => by
    obtain rfl : o' = o := by simpa using h
    have hr : ∀ o ∈ r, o.dst = o'.dst → o'.dst = none := by
      intro o ho he
      cases hq : o'.dst with
      | none => rfl
      | some d =>
        exfalso
        simp only [List.map_cons, hq, dstsOk, Bool.and_eq_true, Bool.not_eq_true'] at hd
        have := hd.1
        rw [← Bool.not_eq_true] at this
        apply this
        rw [List.contains_iff_mem]
        exact List.mem_map.2 ⟨o, ho, he.trans hq⟩
    unfold fillOps
    rw [fill_put u v o'.dst r (k + 1) _ hr, put_put, show upd u (k + 0) v k = v from upd_same u k v]
    exact fill_congr _ _ r (k + 1) _ fun j hj => (upd_ne (by omega)).symm
  | o' :: r, k, i + 1, a, o, hd, h => by
    have hd' : dstsOk (r.map (·.dst)) = true := by
      simp only [List.map_cons] at hd
      cases hq : o'.dst with
      | none => rw [hq] at hd; exact hd
      | some d => rw [hq] at hd; simp only [dstsOk, Bool.and_eq_true] at hd; exact hd.2
    unfold fillOps
    rw [fill_upd u v r (k + 1) i _ o hd' (by simpa using h), show k + (i + 1) = k + 1 + i by omega]
    rw [upd_ne (by omega)]

section
variable {P : Program} {ops : Array Oper} {md : Region.Mode} {w0 : World} {V : Nat → Value → World → Prop} {a0 : Act}

/-- From world w, frame a: operation o leaves a value of which V holds, and adds to the world alone. -/
def OpLeaves (P : Program) (ops : Array Oper) (V : Value → World → Prop) (o : Oper) (a : Act) (w : World) : Prop :=
  (Region.wanted o (yielded ops a.tmps) = true ∧
    ((∃ v w', (execOp a.eval o).run P w = .ok (.value v) w' ∧ Ext w w' ∧ V v w') ∨
     (∃ w', (execOp a.eval o).run P w = .ok .skip w' ∧ Ext w w' ∧ V undef w') ∨
     (∃ f args w', (execOp a.eval o).run P w = .ok (.enter f args) w' ∧ Calls P f args w' fun e w'' => ∃ v, e = .returned v ∧ Ext w w'' ∧ V v w''))) ∨
  (Region.wanted o (yielded ops a.tmps) = false ∧ V undef w)

theorem OpLeaves.wpOp {i : Nat} {o : Oper} {a : Act} {Vi : Value → World → Prop} {Q : Exit → Act → World → Prop} (hi : ops[i]? = some o) {w : World} (hy : OpLeaves P ops Vi o a w)
    {K : Act → World → Prop} (h : ∀ v w', Ext w w' → Vi v w' → K (a.put o.dst v) w') : wpOp P ops Q i K a w := by
  unfold Go.wpOp
  simp only [hi]
  rcases hy with ⟨hw, hv⟩ | ⟨hw, hv⟩
  · simp only [hw, if_true]
    left
    unfold Oper.wp
    rcases hv with ⟨v, w', hr, hE, hv⟩ | ⟨w', hr, hE, hv⟩ | ⟨f, args, w', hr, hc⟩
    · rw [hr]; exact h v w' hE hv
    · rw [hr]; exact h _ w' hE hv
    · rw [hr, Oper.upon_enter]
      refine hc.mono fun e w'' he => ?_
      obtain ⟨v, rfl, hE, hv⟩ := he
      exact h v w'' hE hv
  · simp only [hw, Bool.false_eq_true, if_false]; exact h _ w (Ext.rfl' w) hv

/-- What is to be shown of operation i. -/
def Local (P : Program) (ops : Array Oper) (w0 : World) (V : Nat → Value → World → Prop) (a0 : Act) (i : Nat) (o : Oper) : Prop :=
  ∀ (u : Nat → Value) (w : World), Ext w0 w → (∀ k, (o.after.any fun e => Region.binds .any e && e.on == k) = true → V k (u k) w) → OpLeaves P ops (V i) o (fillOps ops.toList u 0 a0) w
def Locals (P : Program) (ops : Array Oper) (w0 : World) (V : Nat → Value → World → Prop) (a0 : Act) : List Oper → Nat → Prop
  | [], _ => True
  | o :: r, i => Local P ops w0 V a0 i o ∧ Locals P ops w0 V a0 r (i + 1)
theorem locals_nil {i} : Locals P ops w0 V a0 [] i := trivial
theorem locals_cons {o : Oper} {r : List Oper} {i : Nat} (h : Local P ops w0 V a0 i o) (hr : Locals P ops w0 V a0 r (i + 1)) : Locals P ops w0 V a0 (o :: r) i := ⟨h, hr⟩
theorem locals_at : ∀ (r : List Oper) (k i : Nat) (o : Oper), Locals P ops w0 V a0 r k → r[i]? = some o → Local P ops w0 V a0 (k + i) o
  | [], _, _, _, _, h => by cases h
  | o' :: r, k, 0, o, hl, h => by obtain rfl : o' = o := by simpa using h
                                  exact hl.1
  | o' :: r, k, i + 1, o, hl, h => by
    rw [show k + (i + 1) = k + 1 + i by omega]
    exact locals_at r (k + 1) i o hl.2 (by simpa using h)
theorem afters_at : ∀ (r : List Oper) (k i : Nat) (o : Oper), aftersOk r k = true → r[i]? = some o → ∀ e ∈ o.after, e.on < k + i
  | [], _, _, _, _, h, _, _ => by cases h
  | o' :: r, k, 0, o, ha, h, e, he => by
    obtain rfl : o' = o := by simpa using h
    simp only [aftersOk, Bool.and_eq_true] at ha
    have := Array.all_eq_true_iff_forall_mem.1 ha.1 e he
    simpa using this
  | o' :: r, k, i + 1, o, ha, h, e, he => by
    simp only [aftersOk, Bool.and_eq_true] at ha
    have := afters_at r (k + 1) i o ha.2 (by simpa using h) e he
    omega

theorem count_set : ∀ (l : List Bool) (i : Nat), l[i]? = some false → (l.set i true).count true = l.count true + 1
  | [], _, h => by cases h
  | b :: l, 0, h => by obtain rfl : b = false := by simpa using h
                       simp
  | b :: l, i + 1, h => by
    have := count_set l i (by simpa using h)
    simp only [List.set_cons_succ, List.count_cons]
    omega

theorem wpAny_locals {Q : Exit → Act → World → Prop} (hd : dstsOk (ops.toList.map (·.dst)) = true) (ha : aftersOk ops.toList 0 = true)
    (hst : ∀ k v w w', Ext w0 w → Ext w w' → V k v w → V k v w') (hl : Locals P ops w0 V a0 ops.toList 0)
    (hE : ∀ u w, Ext w0 w → (∀ k, k < ops.size → V k (u k) w) → Q .normal (fillOps ops.toList u 0 a0) w) :
    ∀ (fuel : Nat) (listed : Array Bool) (u : Nat → Value) (w : World), listed.size = ops.size → listed.toList.count true + fuel = ops.size → Ext w0 w →
      (∀ k, listed.getD k false = true → V k (u k) w) → wpAny P .any ops Q fuel listed (fillOps ops.toList u 0 a0) w := by
  intro fuel
  induction fuel with
  | zero =>
    intro listed u w hsz hc hw hV
    have hall : ∀ k, k < ops.size → listed.getD k false = true := by
      intro k hk
      have h1 : ∀ b ∈ listed.toList, true = b := List.count_eq_length.1 (by simpa [hsz] using hc)
      have hk' : k < listed.size := by omega
      rw [Array.getD_eq_getD_getElem?, Array.getElem?_eq_getElem hk']
      exact (h1 _ (by simp)).symm
    refine ⟨?_, hE u w hw fun k hk => hV k (hall k hk)⟩
    rw [List.eq_nil_iff_forall_not_mem]
    intro j hj
    obtain ⟨h0, o, ho, _⟩ := mem_ready.1 hj
    have hj' : j < ops.size := (Array.getElem?_eq_some_iff.1 ho).1
    have := hall j hj'
    have hk' : j < listed.size := by omega
    rw [Array.getD_eq_getD_getElem?, Array.getElem?_eq_getElem hk'] at this h0
    simp at this h0
    rw [this] at h0; cases h0
  | succ fuel ih =>
    intro listed u w hsz hc hw hV
    refine ⟨fun hr => hE u w hw fun k hk => ?_, fun i hi => ?_⟩
    · -- nothing is ready: all is listed
      refine hV k ?_
      have : ∀ k, k < ops.size → listed.getD k false = true := by
        intro k
        induction k using Nat.strongRecOn with
        | ind k ihk =>
          intro hk
          cases hb : listed.getD k false with
          | true => rfl
          | false =>
            exfalso
            have hk' : k < listed.size := by omega
            have hmem : k ∈ Region.ready .any ops listed := by
              rw [mem_ready]
              refine ⟨?_, ops[k], Array.getElem?_eq_getElem hk, fun e he _ => ?_⟩
              · rw [Array.getD_eq_getD_getElem?, Array.getElem?_eq_getElem hk'] at hb ⊢
                simpa using hb
              · have := afters_at ops.toList 0 k ops[k] ha (by simp [hk]) e he
                exact ihk e.on (by omega) (by omega)
            rw [hr] at hmem
            cases hmem
      exact this k hk
    · obtain ⟨h0, o, ho, hall⟩ := mem_ready.1 hi
      have hi' : i < ops.size := (Array.getElem?_eq_some_iff.1 ho).1
      have hk' : i < listed.size := by omega
      have ho' : ops.toList[i]? = some o := by rw [Array.getElem?_toList]; exact ho
      have hL := locals_at ops.toList 0 i o hl ho'
      rw [Nat.zero_add] at hL
      have hs := hL u w hw (fun k hk => by
        rw [Array.any_eq_true] at hk
        obtain ⟨q, hq, he⟩ := hk
        rw [Bool.and_eq_true] at he
        have := hall _ (Array.getElem_mem hq) he.1
        rw [beq_iff_eq.1 he.2] at this
        exact hV k this)
      refine hs.wpOp ho fun v w' hE' hv => ?_
      rw [fill_upd u v ops.toList 0 i a0 o hd ho', Nat.zero_add]
      refine ih (listed.setIfInBounds i true) (upd u i v) w' (by simpa using hsz) ?_ (hw.tr hE') fun k hk => ?_
      · have hf : listed.toList[i]? = some false := by
          rw [Array.getD_eq_getD_getElem?, Array.getElem?_eq_getElem hk'] at h0
          rw [Array.getElem?_toList, Array.getElem?_eq_getElem hk']
          simpa using h0
        have := count_set listed.toList i hf
        rw [Array.toList_setIfInBounds, this]
        omega
      · by_cases hki : k = i
        · subst hki; rw [upd_same]; exact hv
        · rw [upd_ne hki]
          refine hst k _ w w' hw hE' (hV k ?_)
          rw [Array.getD_eq_getD_getElem?, Array.getElem?_setIfInBounds_ne (Ne.symm hki)] at hk
          rw [Array.getD_eq_getD_getElem?]
          exact hk

theorem leaves_val {o : Oper} {a : Act} {w : World} {Vi : Value → World → Prop} {v : Value} (hw : Region.wanted o (yielded ops a.tmps) = true) (h : (execOp a.eval o).run P w = .ok (.value v) w) (hv : Vi v w) : OpLeaves P ops Vi o a w :=
  .inl ⟨hw, .inl ⟨v, w, h, Ext.rfl' w, hv⟩⟩
theorem leaves_new {o : Oper} {a : Act} {w w' : World} {Vi : Value → World → Prop} {v : Value} (hw : Region.wanted o (yielded ops a.tmps) = true) (h : (execOp a.eval o).run P w = .ok (.value v) w') (hE : Ext w w') (hv : Vi v w') : OpLeaves P ops Vi o a w :=
  .inl ⟨hw, .inl ⟨v, w', h, hE, hv⟩⟩
theorem leaves_call {o : Oper} {a : Act} {w : World} {Vi : Value → World → Prop} {f : FuncId} {args : Array Value} (hw : Region.wanted o (yielded ops a.tmps) = true) (h : (execOp a.eval o).run P w = .ok (.enter f args) w)
    (hc : Calls P f args w fun e w'' => ∃ v, e = .returned v ∧ Ext w w'' ∧ Vi v w'') : OpLeaves P ops Vi o a w :=
  .inl ⟨hw, .inr (.inr ⟨f, args, w, h, hc⟩)⟩
/-- The whole region. -/
theorem wp_region_locals {Q : Exit → Act → World → Prop} {id : Nat} {w : World} (V : Nat → Value → World → Prop) (hm : P.follows .mixedOrders = true)
    (hd : dstsOk (ops.toList.map (·.dst)) = true) (ha : aftersOk ops.toList 0 = true)
    (hst : ∀ k v w1 w2, Ext w w1 → Ext w1 w2 → V k v w1 → V k v w2) (hl : Locals P ops w V a0 ops.toList 0)
    (hE : ∀ u w', Ext w w' → (∀ k, k < ops.size → V k (u k) w') → Q .normal (fillOps ops.toList u 0 a0) w') : (Code.region id ops true).wp P Q a0 w := by
  have h0 : fillOps ops.toList (fun k => ((ops.toList[k]?).bind fun o => o.dst.bind fun d => a0.tmps[d]?).getD undef) 0 a0 = a0 := by
    refine fill_id _ ops.toList 0 a0 fun j o ho => ?_
    simp only [Nat.zero_add, ho, Option.bind_some]
    cases hq : o.dst with
    | none => rfl
    | some d =>
      simp only [Act.put, Option.bind_some]
      by_cases hlt : d < a0.tmps.size
      · rw [Array.getElem?_eq_getElem hlt]
        simp [Array.setIfInBounds, hlt]
      · simp [Array.setIfInBounds, hlt]
  refine wp_region_any hm ?_
  rw [← h0]
  refine wpAny_locals (w0 := w) hd ha hst hl hE ops.size _ _ _ (by simp) (by simp [List.count_replicate]) (Ext.rfl' w).dr fun k hk => ?_
  exfalso
  rw [Array.getD_eq_getD_getElem?, Array.getElem?_replicate] at hk
  split at hk <;> simp at hk
end
end Go

namespace Go
open Go.Proofs.YtmnpbpfeoackiaaDoor Go.RowKit
section
variable {P : Program} {ops : Array Oper} {J : List Bool → World → Prop} {V : List Bool → Nat → Value → World → Prop} {a0 : Act} {cs : List Nat}

/-- Each operation waits, as far as any order binds it, for earlier ones alone. -/
def aftersOkB : List Oper → Nat → Bool
  | [], _ => true
  | o :: r, k => o.after.all (fun e => !Region.binds .any e || decide (e.on < k)) && aftersOkB r (k + 1)
theorem aftersB_at : ∀ (r : List Oper) (k i : Nat) (o : Oper), aftersOkB r k = true → r[i]? = some o → ∀ e ∈ o.after, Region.binds .any e = true → e.on < k + i
  | [], _, _, _, _, h, _, _, _ => by cases h
  | o' :: r, k, 0, o, ha, h, e, he, hb => by
    obtain rfl : o' = o := by simpa using h
    simp only [aftersOkB, Bool.and_eq_true] at ha
    have := Array.all_eq_true_iff_forall_mem.1 ha.1 e he
    simpa [hb] using this
  | o' :: r, k, i + 1, o, ha, h, e, he, hb => by
    simp only [aftersOkB, Bool.and_eq_true] at ha
    have := aftersB_at r (k + 1) i o ha.2 (by simpa using h) e he hb
    omega

/-- What is to be shown of an ordinary operation. -/
def LocalQ (P : Program) (ops : Array Oper) (J : List Bool → World → Prop) (V : List Bool → Nat → Value → World → Prop) (cs : List Nat) (a0 : Act) (i : Nat) (o : Oper) : Prop :=
  (i ∉ cs → ∀ (bs : List Bool) (u : Nat → Value) (w : World), bs.length = cs.length → J bs w → (∀ (p c : Nat) (oc : Oper), bs[p]? = some true → cs[p]? = some c → ops[c]? = some oc → (oc.after.any fun e => Region.binds .any e && e.on == i) = false) → (∀ k, (o.after.any fun e => Region.binds .any e && e.on == k) = true → V bs k (u k) w) → OpLeaves P ops (V bs i) o (fillOps ops.toList u 0 a0) w) ∧
  (∀ (p : Nat), cs[p]? = some i → ∀ (bs : List Bool) (u : Nat → Value) (w : World), bs.length = cs.length → bs[p]? = some false → J bs w → (∀ k, (o.after.any fun e => Region.binds .any e && e.on == k) = true → V bs k (u k) w) →
    (∀ (q j : Nat), bs[q]? = some true → cs[q]? = some j → V bs j (u j) w) →
    Region.wanted o (yielded ops (fillOps ops.toList u 0 a0).tmps) = true ∧ ∀ (K : Act → World → Prop) (Q : Exit → Act → World → Prop),
      (∀ v w', J (bs.set p true) w' → V (bs.set p true) i v w' → (∀ k, V bs k (u k) w → V (bs.set p true) k (u k) w') → K ((fillOps ops.toList u 0 a0).put o.dst v) w') → o.wp P (fillOps ops.toList u 0 a0) w K Q)
def LocalsQ (P : Program) (ops : Array Oper) (J : List Bool → World → Prop) (V : List Bool → Nat → Value → World → Prop) (cs : List Nat) (a0 : Act) : List Oper → Nat → Prop
  | [], _ => True
  | o :: r, i => LocalQ P ops J V cs a0 i o ∧ LocalsQ P ops J V cs a0 r (i + 1)
theorem localsQ_nil {i} : LocalsQ P ops J V cs a0 [] i := trivial
theorem localsQ_cons {o : Oper} {r : List Oper} {i : Nat} (h : LocalQ P ops J V cs a0 i o) (hr : LocalsQ P ops J V cs a0 r (i + 1)) : LocalsQ P ops J V cs a0 (o :: r) i := ⟨h, hr⟩
/-- An ordinary operation. -/
theorem localsQ_ord {o : Oper} {r : List Oper} {i : Nat} (hi : i ∉ cs)
    (h : ∀ (bs : List Bool) (u : Nat → Value) (w : World), bs.length = cs.length → J bs w → (∀ (p c : Nat) (oc : Oper), bs[p]? = some true → cs[p]? = some c → ops[c]? = some oc → (oc.after.any fun e => Region.binds .any e && e.on == i) = false) → (∀ k, (o.after.any fun e => Region.binds .any e && e.on == k) = true → V bs k (u k) w) → OpLeaves P ops (V bs i) o (fillOps ops.toList u 0 a0) w)
    (hr : LocalsQ P ops J V cs a0 r (i + 1)) : LocalsQ P ops J V cs a0 (o :: r) i :=
  ⟨⟨fun _ => h, fun _ hp => absurd (List.mem_of_getElem? hp) hi⟩, hr⟩
/-- One of cs: the p-th. -/
theorem localsQ_turn {o : Oper} {r : List Oper} {i : Nat} (p : Nat) (hp : cs[p]? = some i) (hu : ∀ (q : Nat), cs[q]? = some i → q = p)
    (h : ∀ (bs : List Bool) (u : Nat → Value) (w : World), bs.length = cs.length → bs[p]? = some false → J bs w → (∀ k, (o.after.any fun e => Region.binds .any e && e.on == k) = true → V bs k (u k) w) →
      (∀ (q j : Nat), bs[q]? = some true → cs[q]? = some j → V bs j (u j) w) →
      Region.wanted o (yielded ops (fillOps ops.toList u 0 a0).tmps) = true ∧ ∀ (K : Act → World → Prop) (Q : Exit → Act → World → Prop),
        (∀ v w', J (bs.set p true) w' → V (bs.set p true) i v w' → (∀ k, V bs k (u k) w → V (bs.set p true) k (u k) w') → K ((fillOps ops.toList u 0 a0).put o.dst v) w') → o.wp P (fillOps ops.toList u 0 a0) w K Q)
    (hr : LocalsQ P ops J V cs a0 r (i + 1)) : LocalsQ P ops J V cs a0 (o :: r) i :=
  ⟨⟨fun hn => absurd (List.mem_of_getElem? hp) hn, fun q hq => by obtain rfl := hu q hq; exact h⟩, hr⟩
theorem localsQ_at : ∀ (r : List Oper) (k i : Nat) (o : Oper), LocalsQ P ops J V cs a0 r k → r[i]? = some o → LocalQ P ops J V cs a0 (k + i) o
  | [], _, _, _, _, h => by cases h
  | o' :: r, k, 0, o, hl, h => by obtain rfl : o' = o := by simpa using h
                                  exact hl.1
  | o' :: r, k, i + 1, o, hl, h => by
    rw [show k + (i + 1) = k + 1 + i by omega]
    exact localsQ_at r (k + 1) i o hl.2 (by simpa using h)

theorem cs_inj {cs : List Nat} (h : cs.Nodup) (p q i : Nat) (hp : cs[p]? = some i) (hq : cs[q]? = some i) : q = p :=
  (List.getElem?_inj (List.getElem?_eq_some_iff.1 hq).1 h).1 (hq.trans hp.symm)
theorem bs_one {bs : List Bool} (h : bs.length = 1) (h0 : bs[0]? = some false) : bs = [false] := by
  match bs, h with
  | [b], _ => simpa using h0
/-- A store as one of cs. -/
theorem turn_skip {o : Oper} {a : Act} {w w' : World} {K : Act → World → Prop} {Q : Exit → Act → World → Prop} (hr : (execOp a.eval o).run P w = .ok .skip w') (h : K (a.put o.dst undef) w') : o.wp P a w K Q := by
  unfold Oper.wp
  rw [hr]
  exact h
theorem getD_rep (n c : Nat) : (Array.replicate n false).getD c false = false := by
  rw [Array.getD_eq_getD_getElem?, Array.getElem?_replicate]; split <;> rfl
/-- Which of cs are listed. -/
def stage (cs : List Nat) (listed : Array Bool) : List Bool := cs.map fun c => listed.getD c false
theorem stage_other {listed : Array Bool} {i : Nat} (hi : i ∉ cs) : stage cs (listed.setIfInBounds i true) = stage cs listed := by
  refine List.map_congr_left fun c hc => ?_
  have hne : i ≠ c := fun h => hi (h ▸ hc)
  rw [Array.getD_eq_getD_getElem?, Array.getElem?_setIfInBounds_ne hne, ← Array.getD_eq_getD_getElem?]
theorem stage_turn {listed : Array Bool} {i p : Nat} (hs : i < listed.size) (hp : cs[p]? = some i) (hu : ∀ (q : Nat), cs[q]? = some i → q = p) : stage cs (listed.setIfInBounds i true) = (stage cs listed).set p true := by
  apply List.ext_getElem?
  intro q
  by_cases hq : q = p
  · subst hq
    rw [List.getElem?_set_self (by rw [stage, List.length_map]; exact (List.getElem?_eq_some_iff.1 hp).1)]
    unfold stage
    rw [List.getElem?_map, hp]
    simp [Array.getD_eq_getD_getElem?, Array.getElem?_setIfInBounds, hs]
  · rw [List.getElem?_set_ne (fun h => hq h.symm)]
    unfold stage
    rw [List.getElem?_map, List.getElem?_map]
    cases hc : cs[q]? with
    | none => rfl
    | some c =>
      have hne : i ≠ c := fun h => hq (hu q (h ▸ hc))
      simp only [Option.map_some]
      rw [Array.getD_eq_getD_getElem?, Array.getElem?_setIfInBounds_ne hne, ← Array.getD_eq_getD_getElem?]

theorem wpAny_stage {Q : Exit → Act → World → Prop} (hcs : ∀ (p q i : Nat), cs[p]? = some i → cs[q]? = some i → q = p) (hd : dstsOk (ops.toList.map (·.dst)) = true) (ha : aftersOkB ops.toList 0 = true)
    (hJ : ∀ (bs : List Bool) w w', J bs w → Ext w w' → J bs w') (hst : ∀ (bs : List Bool) (k : Nat) v w w', J bs w → Ext w w' → V bs k v w → V bs k v w') (hl : LocalsQ P ops J V cs a0 ops.toList 0)
    (hE : ∀ u w, J (cs.map fun _ => true) w → (∀ k, k < ops.size → V (cs.map fun _ => true) k (u k) w) → Q .normal (fillOps ops.toList u 0 a0) w) (hin : ∀ c ∈ cs, c < ops.size) :
    ∀ (fuel : Nat) (listed : Array Bool) (u : Nat → Value) (w : World), listed.size = ops.size → listed.toList.count true + fuel = ops.size → J (stage cs listed) w →
      (∀ (k : Nat) (ok : Oper), ops[k]? = some ok → listed.getD k false = true → ∀ e ∈ ok.after, Region.binds .any e = true → listed.getD e.on false = true) →
      (∀ k, listed.getD k false = true → V (stage cs listed) k (u k) w) → wpAny P .any ops Q fuel listed (fillOps ops.toList u 0 a0) w := by
  have hdone : ∀ (listed : Array Bool), (∀ k, k < ops.size → listed.getD k false = true) → stage cs listed = cs.map fun _ => true :=
    fun listed h => List.map_congr_left fun c hc => h c (hin c hc)
  intro fuel
  induction fuel with
  | zero =>
    intro listed u w hsz hc hw hord hV
    have hall : ∀ k, k < ops.size → listed.getD k false = true := by
      intro k hk
      have h1 : ∀ b ∈ listed.toList, true = b := List.count_eq_length.1 (by simpa [hsz] using hc)
      have hk' : k < listed.size := by omega
      rw [Array.getD_eq_getD_getElem?, Array.getElem?_eq_getElem hk']
      exact (h1 _ (by simp)).symm
    refine ⟨?_, hE u w (by rw [← hdone listed hall]; exact hw) fun k hk => by rw [← hdone listed hall]; exact hV k (hall k hk)⟩
    rw [List.eq_nil_iff_forall_not_mem]
    intro j hj
    obtain ⟨h0, o, ho, _⟩ := mem_ready.1 hj
    have hj' : j < ops.size := (Array.getElem?_eq_some_iff.1 ho).1
    have := hall j hj'
    have hk' : j < listed.size := by omega
    rw [Array.getD_eq_getD_getElem?, Array.getElem?_eq_getElem hk'] at this h0
    simp at this h0
    rw [this] at h0; cases h0
  | succ fuel ih =>
    intro listed u w hsz hc hw hord hV
    refine ⟨fun hr => ?_, fun i hi => ?_⟩
    · have hall : ∀ k, k < ops.size → listed.getD k false = true := by
        intro k
        induction k using Nat.strongRecOn with
        | ind k ihk =>
          intro hk
          cases hb : listed.getD k false with
          | true => rfl
          | false =>
            exfalso
            have hk' : k < listed.size := by omega
            have hmem : k ∈ Region.ready .any ops listed := by
              rw [mem_ready]
              refine ⟨?_, ops[k], Array.getElem?_eq_getElem hk, fun e he hbd => ?_⟩
              · rw [Array.getD_eq_getD_getElem?, Array.getElem?_eq_getElem hk'] at hb ⊢
                simpa using hb
              · have := aftersB_at ops.toList 0 k ops[k] ha (by simp [hk]) e he hbd
                exact ihk e.on (by omega) (by omega)
            rw [hr] at hmem
            cases hmem
      exact hE u w (by rw [← hdone listed hall]; exact hw) fun k hk => by rw [← hdone listed hall]; exact hV k (hall k hk)
    · obtain ⟨h0, o, ho, hall⟩ := mem_ready.1 hi
      have hi' : i < ops.size := (Array.getElem?_eq_some_iff.1 ho).1
      have hk' : i < listed.size := by omega
      have ho' : ops.toList[i]? = some o := by rw [Array.getElem?_toList]; exact ho
      have hL := localsQ_at ops.toList 0 i o hl ho'
      have afterB_lt : ∀ e ∈ o.after, Region.binds .any e = true → e.on < i := fun e he hbd => by
        have := aftersB_at ops.toList 0 i o ha ho' e he hbd
        omega
      rw [Nat.zero_add] at hL
      have haft : ∀ k, (o.after.any fun e => Region.binds .any e && e.on == k) = true → V (stage cs listed) k (u k) w := fun k hk => by
        rw [Array.any_eq_true] at hk
        obtain ⟨q, hq, he⟩ := hk
        rw [Bool.and_eq_true] at he
        have := hall _ (Array.getElem_mem hq) he.1
        rw [beq_iff_eq.1 he.2] at this
        exact hV k this
      have hf : listed.toList[i]? = some false := by
        rw [Array.getD_eq_getD_getElem?, Array.getElem?_eq_getElem hk'] at h0
        rw [Array.getElem?_toList, Array.getElem?_eq_getElem hk']
        simpa using h0
      have hcnt := count_set listed.toList i hf
      have hother : ∀ k, k ≠ i → (listed.setIfInBounds i true).getD k false = true → listed.getD k false = true := fun k hki hk => by
        rw [Array.getD_eq_getD_getElem?, Array.getElem?_setIfInBounds_ne (Ne.symm hki)] at hk
        rw [Array.getD_eq_getD_getElem?]
        exact hk
      have hlen : (stage cs listed).length = cs.length := List.length_map ..
      have hun : listed.getD i false = false := by
        rw [Array.getD_eq_getD_getElem?, Array.getElem?_eq_getElem hk'] at h0 ⊢
        simpa using h0
      have hord' : ∀ (k : Nat) (ok : Oper), ops[k]? = some ok → (listed.setIfInBounds i true).getD k false = true → ∀ e ∈ ok.after, Region.binds .any e = true → (listed.setIfInBounds i true).getD e.on false = true := fun k ok hok hk e he hbd => by
        have hup : ∀ m, listed.getD m false = true → (listed.setIfInBounds i true).getD m false = true := fun m hm => by
          by_cases hmi : i = m
          · subst hmi; rw [hun] at hm; cases hm
          · rw [Array.getD_eq_getD_getElem?, Array.getElem?_setIfInBounds_ne hmi, ← Array.getD_eq_getD_getElem?]; exact hm
        refine hup _ ?_
        by_cases hki : k = i
        · subst hki
          rw [ho] at hok
          cases hok
          have h5 := hall e he hbd
          have h6 := afterB_lt e he hbd
          rw [Array.getD_eq_getD_getElem?, Array.getElem?_eq_getElem (show e.on < listed.size by omega)] at h5 ⊢
          simpa using h5
        · exact hord k ok hok (hother k hki hk) e he hbd
      have hno : ∀ (p c : Nat) (oc : Oper), (stage cs listed)[p]? = some true → cs[p]? = some c → ops[c]? = some oc → (oc.after.any fun e => Region.binds .any e && e.on == i) = false := fun p c oc hp hcp hoc => by
        unfold stage at hp
        rw [List.getElem?_map, hcp] at hp
        have hlc : listed.getD c false = true := by simpa using hp
        cases hany : (oc.after.any fun e => Region.binds .any e && e.on == i) with
        | false => rfl
        | true =>
          rw [Array.any_eq_true] at hany
          obtain ⟨q, hq, he⟩ := hany
          rw [Bool.and_eq_true] at he
          have h7 := hord c oc hoc hlc _ (Array.getElem_mem hq) he.1
          rw [beq_iff_eq.1 he.2, hun] at h7
          cases h7
      by_cases hmem : i ∈ cs
      · obtain ⟨p, hp⟩ := List.mem_iff_getElem?.1 hmem
        have hpu : ∀ (q : Nat), cs[q]? = some i → q = p := fun q hq => hcs p q i hp hq
        have hbp : (stage cs listed)[p]? = some false := by
          unfold stage
          rw [List.getElem?_map, hp]
          have h00 : listed.getD i false = false := by
            rw [Array.getD_eq_getD_getElem?, Array.getElem?_eq_getElem hk'] at h0 ⊢
            simpa using h0
          simpa using h00
        obtain ⟨hwant, hstep⟩ := hL.2 p hp (stage cs listed) u w hlen hbp hw haft (fun q j hq hj => by
          refine hV j ?_
          unfold stage at hq
          rw [List.getElem?_map, hj] at hq
          simpa using hq)
        unfold Go.wpOp
        simp only [ho]
        rw [if_pos hwant]
        refine .inl (hstep _ _ fun v w' hJ' hv hkeep => ?_)
        rw [fill_upd u v ops.toList 0 i a0 o hd ho', Nat.zero_add]
        refine ih (listed.setIfInBounds i true) (upd u i v) w' (by simpa using hsz) (by rw [Array.toList_setIfInBounds, hcnt]; omega) (by rw [stage_turn hk' hp hpu]; exact hJ') hord' fun k hk => ?_
        rw [stage_turn hk' hp hpu]
        by_cases hki : k = i
        · subst hki; rw [upd_same]; exact hv
        · rw [upd_ne hki]
          exact hkeep k (hV k (hother k hki hk))
      · have hs := hL.1 hmem (stage cs listed) u w hlen hw hno haft
        refine hs.wpOp ho fun v w' hE' hv => ?_
        rw [fill_upd u v ops.toList 0 i a0 o hd ho', Nat.zero_add]
        refine ih (listed.setIfInBounds i true) (upd u i v) w' (by simpa using hsz) (by rw [Array.toList_setIfInBounds, hcnt]; omega) (by rw [stage_other hmem]; exact hJ _ w w' hw hE') hord' fun k hk => ?_
        rw [stage_other hmem]
        by_cases hki : k = i
        · subst hki; rw [upd_same]; exact hv
        · rw [upd_ne hki]
          exact hst _ k _ w w' hw hE' (hV k (hother k hki hk))

/-- The whole region. -/
theorem wp_region_stage {Q : Exit → Act → World → Prop} {id : Nat} {w : World} (cs : List Nat) (J : List Bool → World → Prop) (V : List Bool → Nat → Value → World → Prop) (hcs : ∀ (p q i : Nat), cs[p]? = some i → cs[q]? = some i → q = p) (hin : ∀ c ∈ cs, c < ops.size) (hm : P.follows .mixedOrders = true)
    (hd : dstsOk (ops.toList.map (·.dst)) = true) (ha : aftersOkB ops.toList 0 = true)
    (h00 : J (cs.map fun _ => false) w.drew) (hJ : ∀ (bs : List Bool) w1 w2, J bs w1 → Ext w1 w2 → J bs w2)
    (hst : ∀ (bs : List Bool) (k : Nat) v w1 w2, J bs w1 → Ext w1 w2 → V bs k v w1 → V bs k v w2) (hl : LocalsQ P ops J V cs a0 ops.toList 0)
    (hE : ∀ u w', J (cs.map fun _ => true) w' → (∀ k, k < ops.size → V (cs.map fun _ => true) k (u k) w') → Q .normal (fillOps ops.toList u 0 a0) w') : (Code.region id ops true).wp P Q a0 w := by
  have h0 : fillOps ops.toList (fun k => ((ops.toList[k]?).bind fun o => o.dst.bind fun d => a0.tmps[d]?).getD undef) 0 a0 = a0 := by
    refine fill_id _ ops.toList 0 a0 fun j o ho => ?_
    simp only [Nat.zero_add, ho, Option.bind_some]
    cases hq : o.dst with
    | none => rfl
    | some d =>
      simp only [Act.put, Option.bind_some]
      by_cases hlt : d < a0.tmps.size
      · rw [Array.getElem?_eq_getElem hlt]
        simp [Array.setIfInBounds, hlt]
      · simp [Array.setIfInBounds, hlt]
  refine wp_region_any hm ?_
  rw [← h0]
  refine wpAny_stage hcs hd ha hJ hst hl hE hin ops.size _ _ _ (by simp) (by simp [List.count_replicate]) ?_ ?_ fun k hk => ?_
  · rw [show stage cs (Array.replicate ops.size false) = cs.map fun _ => false from List.map_congr_left fun c _ => getD_rep ops.size c]; exact h00
  · intro k ok _ hk
    rw [getD_rep] at hk
    cases hk
  exfalso
  rw [Array.getD_eq_getD_getElem?, Array.getElem?_replicate] at hk
  split at hk <;> simp at hk
/-- Three cells laid anew. -/
theorem heap_set3 (w : World) (g : Nat) (a b c : Value) (j : Nat) (h : j ≠ g) : (((w.setCell ⟨g, 0, none⟩ a).setCell ⟨g, 1, none⟩ b).setCell ⟨g, 2, none⟩ c).heap[j]? = w.heap[j]? :=
  (Below.heap_setCell _ ⟨g, 2, none⟩ c j h).trans ((Below.heap_setCell _ ⟨g, 1, none⟩ b j h).trans (Below.heap_setCell _ ⟨g, 0, none⟩ a j h))
end
end Go

namespace Go
open Go.Proofs.YtmnpbpfeoackiaaDoor

section
variable {P : Program} {ops : Array Oper} {a0 : Act}

def setL (L : Nat → Bool) (i : Nat) : Nat → Bool := fun k => if k = i then true else L k
/-- What operation j waits for. -/
def waitsFor (ops : Array Oper) (j k : Nat) : Bool := ((ops[j]?).map fun o => o.after.any fun e => Region.binds .any e && e.on == k).getD false

/-- What is to be shown of operation i. -/
def LocalS (P : Program) (ops : Array Oper) (c : Nat → Value) (wOf : (Nat → Bool) → World) (a0 : Act) (i : Nat) (o : Oper) : Prop :=
  ∀ (u : Nat → Value) (L : Nat → Bool), L i = false → (∀ j k, L j = true → waitsFor ops j k = true → L k = true) → (∀ k, waitsFor ops i k = true → L k = true ∧ u k = c k) →
    Region.wanted o (yielded ops (fillOps ops.toList u 0 a0).tmps) = true ∧
    ((execOp (fillOps ops.toList u 0 a0).eval o).run P (wOf L) = .ok (.value (c i)) (wOf (setL L i)) ∨
     (c i = undef ∧ (execOp (fillOps ops.toList u 0 a0).eval o).run P (wOf L) = .ok .skip (wOf (setL L i))) ∨
     (∃ f args, (execOp (fillOps ops.toList u 0 a0).eval o).run P (wOf L) = .ok (.enter f args) (wOf L) ∧ Calls P f args (wOf L) fun e w'' => e = .returned (c i) ∧ w'' = wOf (setL L i)))
def LocalsS (P : Program) (ops : Array Oper) (c : Nat → Value) (wOf : (Nat → Bool) → World) (a0 : Act) : List Oper → Nat → Prop
  | [], _ => True
  | o :: r, i => LocalS P ops c wOf a0 i o ∧ LocalsS P ops c wOf a0 r (i + 1)
variable {c : Nat → Value} {wOf : (Nat → Bool) → World}
theorem localsS_nil {i} : LocalsS P ops c wOf a0 [] i := trivial
theorem localsS_cons {o : Oper} {r : List Oper} {i : Nat} (h : LocalS P ops c wOf a0 i o) (hr : LocalsS P ops c wOf a0 r (i + 1)) : LocalsS P ops c wOf a0 (o :: r) i := ⟨h, hr⟩
theorem localsS_at : ∀ (r : List Oper) (k i : Nat) (o : Oper), LocalsS P ops c wOf a0 r k → r[i]? = some o → LocalS P ops c wOf a0 (k + i) o
  | [], _, _, _, _, h => by cases h
  | o' :: r, k, 0, o, hl, h => by obtain rfl : o' = o := by simpa using h
                                  exact hl.1
  | o' :: r, k, i + 1, o, hl, h => by
    rw [show k + (i + 1) = k + 1 + i by omega]
    exact localsS_at r (k + 1) i o hl.2 (by simpa using h)

theorem waits_at {j k : Nat} {o : Oper} (ho : ops[j]? = some o) (h : waitsFor ops j k = true) : ∃ e ∈ o.after, Region.binds .any e = true ∧ e.on = k := by
  unfold waitsFor at h
  rw [ho] at h
  simp only [Option.map_some, Option.getD_some] at h
  rw [Array.any_eq_true] at h
  obtain ⟨q, hq, he⟩ := h
  rw [Bool.and_eq_true] at he
  exact ⟨_, Array.getElem_mem hq, he.1, by simpa using he.2⟩

theorem wpAny_states {Q : Exit → Act → World → Prop} (hd : dstsOk (ops.toList.map (·.dst)) = true) (ha : aftersOk ops.toList 0 = true) (hl : LocalsS P ops c wOf a0 ops.toList 0)
    (hE : ∀ u L, (∀ k, k < ops.size → L k = true ∧ u k = c k) → Q .normal (fillOps ops.toList u 0 a0) (wOf L)) :
    ∀ (fuel : Nat) (listed : Array Bool) (u : Nat → Value), listed.size = ops.size → listed.toList.count true + fuel = ops.size →
      (∀ j k, listed.getD j false = true → waitsFor ops j k = true → listed.getD k false = true) →
      (∀ k, listed.getD k false = true → u k = c k) → wpAny P .any ops Q fuel listed (fillOps ops.toList u 0 a0) (wOf fun k => listed.getD k false) := by
  intro fuel
  induction fuel with
  | zero =>
    intro listed u hsz hc hcl hV
    have hall : ∀ k, k < ops.size → listed.getD k false = true := by
      intro k hk
      have h1 : ∀ b ∈ listed.toList, true = b := List.count_eq_length.1 (by simpa [hsz] using hc)
      have hk' : k < listed.size := by omega
      rw [Array.getD_eq_getD_getElem?, Array.getElem?_eq_getElem hk']
      exact (h1 _ (by simp)).symm
    refine ⟨?_, hE u _ fun k hk => ⟨hall k hk, hV k (hall k hk)⟩⟩
    rw [List.eq_nil_iff_forall_not_mem]
    intro j hj
    obtain ⟨h0, o, ho, _⟩ := mem_ready.1 hj
    have hj' : j < ops.size := (Array.getElem?_eq_some_iff.1 ho).1
    have := hall j hj'
    have hk' : j < listed.size := by omega
    rw [Array.getD_eq_getD_getElem?, Array.getElem?_eq_getElem hk'] at this h0
    simp at this h0
    rw [this] at h0; cases h0
  | succ fuel ih =>
    intro listed u hsz hc hcl hV
    refine ⟨fun hr => hE u _ fun k hk => ?_, fun i hi => ?_⟩
    · have : ∀ k, k < ops.size → listed.getD k false = true := by
        intro k
        induction k using Nat.strongRecOn with
        | ind k ihk =>
          intro hk
          cases hb : listed.getD k false with
          | true => rfl
          | false =>
            exfalso
            have hk' : k < listed.size := by omega
            have hmem : k ∈ Region.ready .any ops listed := by
              rw [mem_ready]
              refine ⟨?_, ops[k], Array.getElem?_eq_getElem hk, fun e he _ => ?_⟩
              · rw [Array.getD_eq_getD_getElem?, Array.getElem?_eq_getElem hk'] at hb ⊢
                simpa using hb
              · have := afters_at ops.toList 0 k ops[k] ha (by simp [hk]) e he
                exact ihk e.on (by omega) (by omega)
            rw [hr] at hmem
            cases hmem
      exact ⟨this k hk, hV k (this k hk)⟩
    · obtain ⟨h0, o, ho, hall⟩ := mem_ready.1 hi
      have hi' : i < ops.size := (Array.getElem?_eq_some_iff.1 ho).1
      have hk' : i < listed.size := by omega
      have ho' : ops.toList[i]? = some o := by rw [Array.getElem?_toList]; exact ho
      have hL := localsS_at ops.toList 0 i o hl ho'
      rw [Nat.zero_add] at hL
      have hi0 : listed.getD i false = false := by
        rw [Array.getD_eq_getD_getElem?, Array.getElem?_eq_getElem hk'] at h0 ⊢
        simpa using h0
      have hdep : ∀ k, waitsFor ops i k = true → listed.getD k false = true := fun k hk => by
        obtain ⟨e, he, hb, rfl⟩ := waits_at ho hk
        exact hall e he hb
      have hset : (fun k => (listed.setIfInBounds i true).getD k false) = setL (fun k => listed.getD k false) i := by
        funext k
        unfold setL
        by_cases hki : k = i
        · subst hki
          rw [if_pos rfl, Array.getD_eq_getD_getElem?, Array.getElem?_setIfInBounds_self_of_lt hk']
          rfl
        · rw [if_neg hki, Array.getD_eq_getD_getElem?, Array.getElem?_setIfInBounds_ne (Ne.symm hki)]
          exact (Array.getD_eq_getD_getElem? ..).symm
      obtain ⟨hw, hv⟩ := hL u (fun k => listed.getD k false) hi0 hcl (fun k hk => ⟨hdep k hk, hV k (hdep k hk)⟩)
      have next : wpAny P .any ops Q fuel (listed.setIfInBounds i true) ((fillOps ops.toList u 0 a0).put o.dst (c i)) (wOf (setL (fun k => listed.getD k false) i)) := by
        rw [fill_upd u (c i) ops.toList 0 i a0 o hd ho', Nat.zero_add, ← hset]
        refine ih (listed.setIfInBounds i true) (upd u i (c i)) (by simpa using hsz) ?_ ?_ fun k hk => ?_
        · have hf : listed.toList[i]? = some false := by
            rw [Array.getD_eq_getD_getElem?, Array.getElem?_eq_getElem hk'] at h0
            rw [Array.getElem?_toList, Array.getElem?_eq_getElem hk']
            simpa using h0
          have := count_set listed.toList i hf
          rw [Array.toList_setIfInBounds, this]
          omega
        · intro j k hj hk
          have e1 := congrFun hset j
          have e2 := congrFun hset k
          rw [e2]
          rw [e1] at hj
          unfold setL at hj ⊢
          by_cases hki : k = i
          · rw [if_pos hki]
          · rw [if_neg hki]
            by_cases hji : j = i
            · subst hji; exact hdep k hk
            · rw [if_neg hji] at hj; exact hcl j k hj hk
        · by_cases hki : k = i
          · subst hki; exact upd_same _ _ _
          · rw [upd_ne hki]
            have e2 := congrFun hset k
            rw [e2] at hk
            unfold setL at hk
            rw [if_neg hki] at hk
            exact hV k hk
      unfold Go.wpOp
      simp only [ho, hw, if_true]
      left
      unfold Oper.wp
      rcases hv with hr | ⟨hu, hr⟩ | ⟨f, args, hr, hcall⟩
      · rw [hr]; exact next
      · rw [hr]; rw [hu] at next; exact next
      · rw [hr, Oper.upon_enter]
        refine hcall.mono fun e w'' he => ?_
        obtain ⟨rfl, rfl⟩ := he
        exact next

/-- The whole region. -/
theorem wp_region_states {Q : Exit → Act → World → Prop} {id : Nat} {w : World} (c : Nat → Value) (wOf : (Nat → Bool) → World) (hm : P.follows .mixedOrders = true)
    (hd : dstsOk (ops.toList.map (·.dst)) = true) (ha : aftersOk ops.toList 0 = true) (hw : wOf (fun _ => false) = w.drew) (hl : LocalsS P ops c wOf a0 ops.toList 0)
    (hE : ∀ u L, (∀ k, k < ops.size → L k = true ∧ u k = c k) → Q .normal (fillOps ops.toList u 0 a0) (wOf L)) : (Code.region id ops true).wp P Q a0 w := by
  have h0 : fillOps ops.toList (fun k => ((ops.toList[k]?).bind fun o => o.dst.bind fun d => a0.tmps[d]?).getD undef) 0 a0 = a0 := by
    refine fill_id _ ops.toList 0 a0 fun j o ho => ?_
    simp only [Nat.zero_add, ho, Option.bind_some]
    cases hq : o.dst with
    | none => rfl
    | some d =>
      simp only [Act.put, Option.bind_some]
      by_cases hlt : d < a0.tmps.size
      · rw [Array.getElem?_eq_getElem hlt]
        simp [Array.setIfInBounds, hlt]
      · simp [Array.setIfInBounds, hlt]
  have hr : ∀ k, (Array.replicate ops.size false).getD k false = false := fun k => by
    rw [Array.getD_eq_getD_getElem?, Array.getElem?_replicate]
    split <;> rfl
  refine wp_region_any hm ?_
  have hw2 : (wOf fun k => (Array.replicate ops.size false).getD k false) = w.drew := by rw [← hw]; congr 1; funext k; exact hr k
  have := wpAny_states (Q := Q) hd ha hl hE ops.size (Array.replicate ops.size false) (fun k => ((ops.toList[k]?).bind fun o => o.dst.bind fun d => a0.tmps[d]?).getD undef) (by simp) (by simp [List.count_replicate])
    (fun j k hj => by rw [hr] at hj; cases hj) (fun k hk => by rw [hr] at hk; cases hk)
  rw [h0, hw2] at this
  exact this
theorem setL_ne {L : Nat → Bool} {i k : Nat} (h : k ≠ i) : setL L i k = L k := if_neg h
theorem setL_eq {L : Nat → Bool} {i : Nat} : setL L i i = true := if_pos rfl
end
end Go

namespace Go
open Go.Proofs.YtmnpbpfeoackiaaDoor

section
variable {P : Program} {ops : Array Oper} {w0 : World} {V : Nat → Value → World → Prop} {a0 : Act}

/-- What is to be shown of operation i, over the frame that the operations of r0 fill. -/
def LocalR (P : Program) (ops : Array Oper) (w0 : World) (V : Nat → Value → World → Prop) (r0 : List Oper) (a0 : Act) (i : Nat) (o : Oper) : Prop :=
  ∀ (u : Nat → Value) (w : World), Ext w0 w → (∀ k, (o.after.any fun e => Region.binds .any e && e.on == k) = true → V k (u k) w) → OpLeaves P ops (V i) o (fillOps r0 u 0 a0) w
def LocalsR (P : Program) (ops : Array Oper) (w0 : World) (V : Nat → Value → World → Prop) (r0 : List Oper) (a0 : Act) : List Oper → Nat → Prop
  | [], _ => True
  | o :: r, i => LocalR P ops w0 V r0 a0 i o ∧ LocalsR P ops w0 V r0 a0 r (i + 1)
theorem localsR_nil {r0 : List Oper} {i} : LocalsR P ops w0 V r0 a0 [] i := trivial
theorem localsR_cons {r0 : List Oper} {o : Oper} {r : List Oper} {i : Nat} (h : LocalR P ops w0 V r0 a0 i o) (hr : LocalsR P ops w0 V r0 a0 r (i + 1)) : LocalsR P ops w0 V r0 a0 (o :: r) i := ⟨h, hr⟩
theorem localsR_at {r0 : List Oper} : ∀ (r : List Oper) (k i : Nat) (o : Oper), LocalsR P ops w0 V r0 a0 r k → r[i]? = some o → LocalR P ops w0 V r0 a0 (k + i) o
  | [], _, _, _, _, h => by cases h
  | o' :: r, k, 0, o, hl, h => by obtain rfl : o' = o := by simpa using h
                                  exact hl.1
  | o' :: r, k, i + 1, o, hl, h => by
    rw [show k + (i + 1) = k + 1 + i by omega]
    exact localsR_at r (k + 1) i o hl.2 (by simpa using h)

def headDone (n m : Nat) : Array Bool := Array.replicate n true ++ Array.replicate m false
theorem headDone_at (n m k : Nat) : (headDone n m)[k]? = if k < n then some true else if k < n + m then some false else none := by
  unfold headDone
  rw [Array.getElem?_append]
  simp only [Array.size_replicate, Array.getElem?_replicate]
  by_cases h1 : k < n
  · simp [h1]
  · simp only [h1, if_false]
    by_cases h2 : k < n + m
    · rw [if_pos (by omega), if_pos h2]
    · rw [if_neg (by omega), if_neg h2]

theorem wpAny_tails {Q : Exit → Act → World → Prop} {n : Nat} (hs : Region.sinkB .any ops n = true) (hc : Region.chainB .any ops n = true) (hn : n < ops.size) (hseq : Region.seqB .any ops (ops.size - n) n (headDone n (ops.size - n)) = true)
    (hd : dstsOk ((ops.toList.take n).map (·.dst)) = true) (ha : aftersOk ops.toList 0 = true)
    (hst : ∀ k v w w', Ext w0 w → Ext w w' → V k v w → V k v w') (hl : LocalsR P ops w0 V (ops.toList.take n) a0 (ops.toList.take n) 0)
    (hE : ∀ u w, Ext w0 w → (∀ k, k < n → V k (u k) w) → wpList P ops Q (ops.toList.drop n) (fillOps (ops.toList.take n) u 0 a0) w) :
    ∀ (f : Nat) (listed : Array Bool) (u : Nat → Value) (w : World), HeadInv .any ops n listed → (listed.toList.take n).count true + f = n → Ext w0 w →
      (∀ k, listed.getD k false = true → V k (u k) w) → wpAny P .any ops Q (f + (ops.size - n)) listed (fillOps (ops.toList.take n) u 0 a0) w := by
  intro f
  induction f with
  | zero =>
    intro listed u w inv hcount hw hV
    have hsz := inv.size
    have hlen : (listed.toList.take n).length = n := by rw [List.length_take, Array.length_toList]; omega
    have hall : ∀ k, k < n → listed[k]? = some true := by
      intro k hk
      have h1 : ∀ b ∈ listed.toList.take n, true = b := List.count_eq_length.1 (by rw [hlen]; omega)
      have hk' : k < listed.size := by omega
      rw [Array.getElem?_eq_getElem hk']
      congr 1
      refine (h1 _ ?_).symm
      rw [List.mem_take_iff_getElem]
      exact ⟨k, by rw [Array.length_toList]; omega, by simp⟩
    have htail : ∀ k, n ≤ k → k < ops.size → listed[k]? = some false := by
      intro k hk1 hk2
      have h0 := inv.tail k hk1 hk2
      have hk' : k < listed.size := by omega
      rw [Array.getD_eq_getD_getElem?, Array.getElem?_eq_getElem hk'] at h0
      rw [Array.getElem?_eq_getElem hk']
      simpa using h0
    have heq : listed = headDone n (ops.size - n) := by
      apply Array.ext_getElem?
      intro k
      rw [headDone_at]
      by_cases h1 : k < n
      · rw [if_pos h1]; exact hall k h1
      · rw [if_neg h1]
        by_cases h2 : k < ops.size
        · rw [if_pos (by omega)]; exact htail k (by omega) h2
        · rw [if_neg (by omega)]; exact Array.getElem?_eq_none (by omega)
    have hdl : (ops.toList.drop n).length = ops.size - n := by simp
    have H := wpAny_of_seq (P := P) (md := .any) (Q' := Q) (ops.toList.drop n) n listed (fillOps (ops.toList.take n) u 0 a0) w (fun j => by simp [List.getElem?_drop]) (by rw [hdl, heq]; exact hseq)
      (hE u w hw fun k hk => hV k (by rw [Array.getD_eq_getD_getElem?, hall k hk]; rfl))
    rw [hdl] at H
    rw [Nat.zero_add]
    exact H
  | succ f ih =>
    intro listed u w inv hcount hw hV
    have hsz := inv.size
    have hlen : (listed.toList.take n).length = n := by rw [List.length_take, Array.length_toList]; omega
    -- one of the first ones is not listed yet
    have hex : ∃ i, i < n ∧ listed.getD i true = false := by
      apply Classical.byContradiction
      intro hno
      have : ∀ b ∈ listed.toList.take n, true = b := by
        intro b hb
        obtain ⟨k, hk, rfl⟩ := List.mem_iff_getElem.1 hb
        have hk2 : k < n := by omega
        cases hq : (listed.toList.take n)[k] with
        | true => rfl
        | false =>
          exfalso
          refine hno ⟨k, hk2, ?_⟩
          have hk' : k < listed.size := by omega
          rw [Array.getD_eq_getD_getElem?, Array.getElem?_eq_getElem hk']
          simpa using hq
      have := List.count_eq_length.2 this
      omega
    obtain ⟨i0, hi0, hun0⟩ := hex
    have hlow : ∀ t, t ∈ Region.ready .any ops listed → t < n := fun t ht => by
      rcases Nat.lt_or_ge t n with h | h
      · exact h
      · exact absurd ht (tail_waits hs hc hn inv _ i0 rfl hi0 hun0 t h)
    rw [show f + 1 + (ops.size - n) = (f + (ops.size - n)) + 1 by omega]
    refine ⟨fun hr => ?_, fun i hi => ?_⟩
    · exfalso
      have : ∀ k, k < n → listed.getD k true = true := by
        intro k
        induction k using Nat.strongRecOn with
        | ind k ihk =>
          intro hk
          cases hb : listed.getD k true with
          | true => rfl
          | false =>
            exfalso
            have hmem : k ∈ Region.ready .any ops listed := by
              rw [mem_ready]
              refine ⟨hb, ops[k]'(by omega), Array.getElem?_eq_getElem (by omega), fun e he _ => ?_⟩
              have h1 := afters_at ops.toList 0 k (ops[k]'(by omega)) ha (by simp [show k < ops.size by omega]) e he
              have h2 := ihk e.on (by omega) (by omega)
              have h3 : e.on < listed.size := by omega
              rw [Array.getD_eq_getD_getElem?, Array.getElem?_eq_getElem h3] at h2 ⊢
              simpa using h2
            rw [hr] at hmem
            cases hmem
      rw [this i0 hi0] at hun0
      cases hun0
    · have hin := hlow i hi
      have inv' := inv.set hi hin
      obtain ⟨h0, o', ho', hall⟩ := mem_ready.1 hi
      have hk' : i < listed.size := by omega
      have ho3 : (ops.toList.take n)[i]? = some o' := by rw [List.getElem?_take, if_pos hin, Array.getElem?_toList]; exact ho'
      have hL := localsR_at (ops.toList.take n) 0 i o' hl ho3
      rw [Nat.zero_add] at hL
      have hss := hL u w hw (fun k hk => by
        rw [Array.any_eq_true] at hk
        obtain ⟨q, hq, he⟩ := hk
        rw [Bool.and_eq_true] at he
        have := hall _ (Array.getElem_mem hq) he.1
        rw [beq_iff_eq.1 he.2] at this
        exact hV k this)
      refine hss.wpOp ho' fun v w' hE' hv => ?_
      rw [fill_upd u v (ops.toList.take n) 0 i a0 o' hd ho3, Nat.zero_add]
      refine ih (listed.setIfInBounds i true) (upd u i v) w' inv' ?_ (hw.tr hE') fun k hk => ?_
      · have hf : (listed.toList.take n)[i]? = some false := by
          rw [Array.getD_eq_getD_getElem?, Array.getElem?_eq_getElem hk'] at h0
          rw [List.getElem?_take, if_pos hin, Array.getElem?_toList, Array.getElem?_eq_getElem hk']
          simpa using h0
        have := count_set (listed.toList.take n) i hf
        rw [Array.toList_setIfInBounds, List.take_set, this]
        omega
      · by_cases hki : k = i
        · subst hki; rw [upd_same]; exact hv
        · rw [upd_ne hki]
          refine hst k _ w w' hw hE' (hV k ?_)
          rw [Array.getD_eq_getD_getElem?, Array.getElem?_setIfInBounds_ne (Ne.symm hki)] at hk
          rw [Array.getD_eq_getD_getElem?]
          exact hk

/-- The whole region. -/
theorem wp_region_tails {Q : Exit → Act → World → Prop} {id : Nat} {w : World} (V : Nat → Value → World → Prop) (n : Nat) (hm : P.follows .mixedOrders = true)
    (hs : Region.sinkB .any ops n = true) (hc : Region.chainB .any ops n = true) (hn : n < ops.size) (hseq : Region.seqB .any ops (ops.size - n) n (headDone n (ops.size - n)) = true)
    (hd : dstsOk ((ops.toList.take n).map (·.dst)) = true) (ha : aftersOk ops.toList 0 = true)
    (hst : ∀ k v w1 w2, Ext w w1 → Ext w1 w2 → V k v w1 → V k v w2) (hl : LocalsR P ops w V (ops.toList.take n) a0 (ops.toList.take n) 0)
    (hE : ∀ u w', Ext w w' → (∀ k, k < n → V k (u k) w') → wpList P ops Q (ops.toList.drop n) (fillOps (ops.toList.take n) u 0 a0) w') : (Code.region id ops true).wp P Q a0 w := by
  have h0 : fillOps (ops.toList.take n) (fun k => (((ops.toList.take n)[k]?).bind fun o => o.dst.bind fun d => a0.tmps[d]?).getD undef) 0 a0 = a0 := by
    refine fill_id _ (ops.toList.take n) 0 a0 fun j o ho => ?_
    simp only [Nat.zero_add, ho, Option.bind_some]
    cases hq : o.dst with
    | none => rfl
    | some d =>
      simp only [Act.put, Option.bind_some]
      by_cases hlt : d < a0.tmps.size
      · rw [Array.getElem?_eq_getElem hlt]
        simp [Array.setIfInBounds, hlt]
      · simp [Array.setIfInBounds, hlt]
  have hr : ∀ k, (Array.replicate ops.size false).getD k false = false := fun k => getD_replicate_false _ _
  refine wp_region_any hm ?_
  have inv0 : HeadInv .any ops n (Array.replicate ops.size false) :=
    ⟨by simp, fun j oj _ hl => (by rw [hr] at hl; cases hl), fun t _ ht => getD_in (by simpa using ht) (hr _)⟩
  have H := wpAny_tails (Q := Q) (w0 := w) hs hc hn hseq hd ha hst hl hE n (Array.replicate ops.size false) (fun k => (((ops.toList.take n)[k]?).bind fun o => o.dst.bind fun d => a0.tmps[d]?).getD undef) w.drew inv0
    (by simp [List.take_replicate, List.count_replicate]) (Ext.rfl' w).dr fun k hk => by rw [hr] at hk; cases hk
  rw [h0, show n + (ops.size - n) = ops.size by omega] at H
  exact H
end
end Go

namespace Go
open Go.Proofs.YtmnpbpfeoackiaaDoor Go.RowKit
section
variable {P : Program} {ops : Array Oper} {J : List Bool → World → Prop} {V : List Bool → Nat → Value → World → Prop} {a0 : Act} {cs : List Nat} {r0 : List Oper}

/-- What is to be shown of an ordinary operation, over the frame that the operations of r0 fill. -/
def LocalT (P : Program) (ops : Array Oper) (J : List Bool → World → Prop) (V : List Bool → Nat → Value → World → Prop) (cs : List Nat) (r0 : List Oper) (a0 : Act) (i : Nat) (o : Oper) : Prop :=
  (i ∉ cs → ∀ (bs : List Bool) (u : Nat → Value) (w : World), bs.length = cs.length → J bs w → (∀ (p c : Nat) (oc : Oper), bs[p]? = some true → cs[p]? = some c → ops[c]? = some oc → (oc.after.any fun e => Region.binds .any e && e.on == i) = false) → (∀ k, (o.after.any fun e => Region.binds .any e && e.on == k) = true → V bs k (u k) w) → OpLeaves P ops (V bs i) o (fillOps r0 u 0 a0) w) ∧
  (∀ (p : Nat), cs[p]? = some i → ∀ (bs : List Bool) (u : Nat → Value) (w : World), bs.length = cs.length → bs[p]? = some false → J bs w → (∀ k, (o.after.any fun e => Region.binds .any e && e.on == k) = true → V bs k (u k) w) →
    (∀ (q j : Nat), bs[q]? = some true → cs[q]? = some j → V bs j (u j) w) →
    Region.wanted o (yielded ops (fillOps r0 u 0 a0).tmps) = true ∧ ∀ (K : Act → World → Prop) (Q : Exit → Act → World → Prop),
      (∀ v w', J (bs.set p true) w' → V (bs.set p true) i v w' → (∀ k, V bs k (u k) w → V (bs.set p true) k (u k) w') → K ((fillOps r0 u 0 a0).put o.dst v) w') → o.wp P (fillOps r0 u 0 a0) w K Q)
def LocalsT (P : Program) (ops : Array Oper) (J : List Bool → World → Prop) (V : List Bool → Nat → Value → World → Prop) (cs : List Nat) (r0 : List Oper) (a0 : Act) : List Oper → Nat → Prop
  | [], _ => True
  | o :: r, i => LocalT P ops J V cs r0 a0 i o ∧ LocalsT P ops J V cs r0 a0 r (i + 1)
theorem localsT_nil {i} : LocalsT P ops J V cs r0 a0 [] i := trivial
/-- An ordinary operation. -/
theorem localsT_ord {o : Oper} {r : List Oper} {i : Nat} (hi : i ∉ cs)
    (h : ∀ (bs : List Bool) (u : Nat → Value) (w : World), bs.length = cs.length → J bs w → (∀ (p c : Nat) (oc : Oper), bs[p]? = some true → cs[p]? = some c → ops[c]? = some oc → (oc.after.any fun e => Region.binds .any e && e.on == i) = false) → (∀ k, (o.after.any fun e => Region.binds .any e && e.on == k) = true → V bs k (u k) w) → OpLeaves P ops (V bs i) o (fillOps r0 u 0 a0) w)
    (hr : LocalsT P ops J V cs r0 a0 r (i + 1)) : LocalsT P ops J V cs r0 a0 (o :: r) i :=
  ⟨⟨fun _ => h, fun _ hp => absurd (List.mem_of_getElem? hp) hi⟩, hr⟩
/-- One of cs: the p-th. -/
theorem localsT_turn {o : Oper} {r : List Oper} {i : Nat} (p : Nat) (hp : cs[p]? = some i) (hu : ∀ (q : Nat), cs[q]? = some i → q = p)
    (h : ∀ (bs : List Bool) (u : Nat → Value) (w : World), bs.length = cs.length → bs[p]? = some false → J bs w → (∀ k, (o.after.any fun e => Region.binds .any e && e.on == k) = true → V bs k (u k) w) →
      (∀ (q j : Nat), bs[q]? = some true → cs[q]? = some j → V bs j (u j) w) →
      Region.wanted o (yielded ops (fillOps r0 u 0 a0).tmps) = true ∧ ∀ (K : Act → World → Prop) (Q : Exit → Act → World → Prop),
        (∀ v w', J (bs.set p true) w' → V (bs.set p true) i v w' → (∀ k, V bs k (u k) w → V (bs.set p true) k (u k) w') → K ((fillOps r0 u 0 a0).put o.dst v) w') → o.wp P (fillOps r0 u 0 a0) w K Q)
    (hr : LocalsT P ops J V cs r0 a0 r (i + 1)) : LocalsT P ops J V cs r0 a0 (o :: r) i :=
  ⟨⟨fun hn => absurd (List.mem_of_getElem? hp) hn, fun q hq => by obtain rfl := hu q hq; exact h⟩, hr⟩
theorem localsT_at : ∀ (r : List Oper) (k i : Nat) (o : Oper), LocalsT P ops J V cs r0 a0 r k → r[i]? = some o → LocalT P ops J V cs r0 a0 (k + i) o
  | [], _, _, _, _, h => by cases h
  | o' :: r, k, 0, o, hl, h => by obtain rfl : o' = o := by simpa using h
                                  exact hl.1
  | o' :: r, k, i + 1, o, hl, h => by
    rw [show k + (i + 1) = k + 1 + i by omega]
    exact localsT_at r (k + 1) i o hl.2 (by simpa using h)

theorem wpAny_stages {Q : Exit → Act → World → Prop} {n : Nat} (hs : Region.sinkB .any ops n = true) (hc : Region.chainB .any ops n = true) (hn : n < ops.size) (hseq : Region.seqB .any ops (ops.size - n) n (headDone n (ops.size - n)) = true)
    (hcs : ∀ (p q i : Nat), cs[p]? = some i → cs[q]? = some i → q = p) (hin : ∀ c ∈ cs, c < n)
    (hd : dstsOk ((ops.toList.take n).map (·.dst)) = true) (ha : aftersOkB ops.toList 0 = true)
    (hJ : ∀ (bs : List Bool) w w', J bs w → Ext w w' → J bs w') (hst : ∀ (bs : List Bool) (k : Nat) v w w', J bs w → Ext w w' → V bs k v w → V bs k v w') (hl : LocalsT P ops J V cs (ops.toList.take n) a0 (ops.toList.take n) 0)
    (hE : ∀ u w, J (cs.map fun _ => true) w → (∀ k, k < n → V (cs.map fun _ => true) k (u k) w) → wpList P ops Q (ops.toList.drop n) (fillOps (ops.toList.take n) u 0 a0) w) :
    ∀ (f : Nat) (listed : Array Bool) (u : Nat → Value) (w : World), HeadInv .any ops n listed → (listed.toList.take n).count true + f = n → J (stage cs listed) w →
      (∀ k, listed.getD k false = true → V (stage cs listed) k (u k) w) → wpAny P .any ops Q (f + (ops.size - n)) listed (fillOps (ops.toList.take n) u 0 a0) w := by
  intro f
  induction f with
  | zero =>
    intro listed u w inv hcount hw hV
    have hsz := inv.size
    have hlen : (listed.toList.take n).length = n := by rw [List.length_take, Array.length_toList]; omega
    have hall : ∀ k, k < n → listed[k]? = some true := by
      intro k hk
      have h1 : ∀ b ∈ listed.toList.take n, true = b := List.count_eq_length.1 (by rw [hlen]; omega)
      have hk' : k < listed.size := by omega
      rw [Array.getElem?_eq_getElem hk']
      congr 1
      refine (h1 _ ?_).symm
      rw [List.mem_take_iff_getElem]
      exact ⟨k, by rw [Array.length_toList]; omega, by simp⟩
    have htail : ∀ k, n ≤ k → k < ops.size → listed[k]? = some false := by
      intro k hk1 hk2
      have h0 := inv.tail k hk1 hk2
      have hk' : k < listed.size := by omega
      rw [Array.getD_eq_getD_getElem?, Array.getElem?_eq_getElem hk'] at h0
      rw [Array.getElem?_eq_getElem hk']
      simpa using h0
    have heq : listed = headDone n (ops.size - n) := by
      apply Array.ext_getElem?
      intro k
      rw [headDone_at]
      by_cases h1 : k < n
      · rw [if_pos h1]; exact hall k h1
      · rw [if_neg h1]
        by_cases h2 : k < ops.size
        · rw [if_pos (by omega)]; exact htail k (by omega) h2
        · rw [if_neg (by omega)]; exact Array.getElem?_eq_none (by omega)
    have hdone : stage cs listed = cs.map fun _ => true :=
      List.map_congr_left fun c hcm => by rw [Array.getD_eq_getD_getElem?, hall c (hin c hcm)]; rfl
    have hdl : (ops.toList.drop n).length = ops.size - n := by simp
    have H := wpAny_of_seq (P := P) (md := .any) (Q' := Q) (ops.toList.drop n) n listed (fillOps (ops.toList.take n) u 0 a0) w (fun j => by simp [List.getElem?_drop]) (by rw [hdl, heq]; exact hseq)
      (hE u w (by rw [← hdone]; exact hw) fun k hk => by rw [← hdone]; exact hV k (by rw [Array.getD_eq_getD_getElem?, hall k hk]; rfl))
    rw [hdl] at H
    rw [Nat.zero_add]
    exact H
  | succ f ih =>
    intro listed u w inv hcount hw hV
    have hsz := inv.size
    have hlen : (listed.toList.take n).length = n := by rw [List.length_take, Array.length_toList]; omega
    have hex : ∃ i, i < n ∧ listed.getD i true = false := by
      apply Classical.byContradiction
      intro hno
      have : ∀ b ∈ listed.toList.take n, true = b := by
        intro b hb
        obtain ⟨k, hk, rfl⟩ := List.mem_iff_getElem.1 hb
        have hk2 : k < n := by omega
        cases hq : (listed.toList.take n)[k] with
        | true => rfl
        | false =>
          exfalso
          refine hno ⟨k, hk2, ?_⟩
          have hk' : k < listed.size := by omega
          rw [Array.getD_eq_getD_getElem?, Array.getElem?_eq_getElem hk']
          simpa using hq
      have := List.count_eq_length.2 this
      omega
    obtain ⟨i0, hi0, hun0⟩ := hex
    have hlow : ∀ t, t ∈ Region.ready .any ops listed → t < n := fun t ht => by
      rcases Nat.lt_or_ge t n with h | h
      · exact h
      · exact absurd ht (tail_waits hs hc hn inv _ i0 rfl hi0 hun0 t h)
    rw [show f + 1 + (ops.size - n) = (f + (ops.size - n)) + 1 by omega]
    refine ⟨fun hr => ?_, fun i hi => ?_⟩
    · exfalso
      have : ∀ k, k < n → listed.getD k true = true := by
        intro k
        induction k using Nat.strongRecOn with
        | ind k ihk =>
          intro hk
          cases hb : listed.getD k true with
          | true => rfl
          | false =>
            exfalso
            have hmem : k ∈ Region.ready .any ops listed := by
              rw [mem_ready]
              refine ⟨hb, ops[k]'(by omega), Array.getElem?_eq_getElem (by omega), fun e he hbd => ?_⟩
              have h1 := aftersB_at ops.toList 0 k (ops[k]'(by omega)) ha (by simp [show k < ops.size by omega]) e he hbd
              have h2 := ihk e.on (by omega) (by omega)
              have h3 : e.on < listed.size := by omega
              rw [Array.getD_eq_getD_getElem?, Array.getElem?_eq_getElem h3] at h2 ⊢
              simpa using h2
            rw [hr] at hmem
            cases hmem
      rw [this i0 hi0] at hun0
      cases hun0
    · have hil := hlow i hi
      have inv' := inv.set hi hil
      obtain ⟨h0, o', ho', hall⟩ := mem_ready.1 hi
      have hk' : i < listed.size := by omega
      have ho3 : (ops.toList.take n)[i]? = some o' := by rw [List.getElem?_take, if_pos hil, Array.getElem?_toList]; exact ho'
      have hL := localsT_at (ops.toList.take n) 0 i o' hl ho3
      rw [Nat.zero_add] at hL
      have haft : ∀ k, (o'.after.any fun e => Region.binds .any e && e.on == k) = true → V (stage cs listed) k (u k) w := fun k hk => by
        rw [Array.any_eq_true] at hk
        obtain ⟨q, hq, he⟩ := hk
        rw [Bool.and_eq_true] at he
        have := hall _ (Array.getElem_mem hq) he.1
        rw [beq_iff_eq.1 he.2] at this
        exact hV k this
      have hf : (listed.toList.take n)[i]? = some false := by
        rw [Array.getD_eq_getD_getElem?, Array.getElem?_eq_getElem hk'] at h0
        rw [List.getElem?_take, if_pos hil, Array.getElem?_toList, Array.getElem?_eq_getElem hk']
        simpa using h0
      have hcnt : ((listed.setIfInBounds i true).toList.take n).count true + f = n := by
        have := count_set (listed.toList.take n) i hf
        rw [Array.toList_setIfInBounds, List.take_set, this]
        omega
      have hother : ∀ k, k ≠ i → (listed.setIfInBounds i true).getD k false = true → listed.getD k false = true := fun k hki hk => by
        rw [Array.getD_eq_getD_getElem?, Array.getElem?_setIfInBounds_ne (Ne.symm hki)] at hk
        rw [Array.getD_eq_getD_getElem?]
        exact hk
      have hlenS : (stage cs listed).length = cs.length := List.length_map ..
      have hun : listed.getD i false = false := getD_both h0
      have hno : ∀ (p c : Nat) (oc : Oper), (stage cs listed)[p]? = some true → cs[p]? = some c → ops[c]? = some oc → (oc.after.any fun e => Region.binds .any e && e.on == i) = false := fun p c oc hp hcp hoc => by
        unfold stage at hp
        rw [List.getElem?_map, hcp] at hp
        have hlc : listed.getD c false = true := by simpa using hp
        cases hany : (oc.after.any fun e => Region.binds .any e && e.on == i) with
        | false => rfl
        | true =>
          rw [Array.any_eq_true] at hany
          obtain ⟨q, hq, he⟩ := hany
          rw [Bool.and_eq_true] at he
          have h7 := inv.closed c oc hoc hlc _ (Array.getElem_mem hq) he.1
          rw [beq_iff_eq.1 he.2, hun] at h7
          cases h7
      by_cases hmem : i ∈ cs
      · obtain ⟨p, hp⟩ := List.mem_iff_getElem?.1 hmem
        have hpu : ∀ (q : Nat), cs[q]? = some i → q = p := fun q hq => hcs p q i hp hq
        have hbp : (stage cs listed)[p]? = some false := by
          unfold stage
          rw [List.getElem?_map, hp]
          have h00 : listed.getD i false = false := by
            rw [Array.getD_eq_getD_getElem?, Array.getElem?_eq_getElem hk'] at h0 ⊢
            simpa using h0
          simpa using h00
        obtain ⟨hwant, hstep⟩ := hL.2 p hp (stage cs listed) u w hlenS hbp hw haft (fun q j hq hj => by
          refine hV j ?_
          unfold stage at hq
          rw [List.getElem?_map, hj] at hq
          simpa using hq)
        unfold Go.wpOp
        simp only [ho']
        rw [if_pos hwant]
        refine .inl (hstep _ _ fun v w' hJ' hv hkeep => ?_)
        rw [fill_upd u v (ops.toList.take n) 0 i a0 o' hd ho3, Nat.zero_add]
        refine ih (listed.setIfInBounds i true) (upd u i v) w' inv' hcnt (by rw [stage_turn hk' hp hpu]; exact hJ') fun k hk => ?_
        rw [stage_turn hk' hp hpu]
        by_cases hki : k = i
        · subst hki; rw [upd_same]; exact hv
        · rw [upd_ne hki]
          exact hkeep k (hV k (hother k hki hk))
      · have hss := hL.1 hmem (stage cs listed) u w hlenS hw hno haft
        refine hss.wpOp ho' fun v w' hE' hv => ?_
        rw [fill_upd u v (ops.toList.take n) 0 i a0 o' hd ho3, Nat.zero_add]
        refine ih (listed.setIfInBounds i true) (upd u i v) w' inv' hcnt (by rw [stage_other hmem]; exact hJ _ w w' hw hE') fun k hk => ?_
        rw [stage_other hmem]
        by_cases hki : k = i
        · subst hki; rw [upd_same]; exact hv
        · rw [upd_ne hki]
          exact hst _ k _ w w' hw hE' (hV k (hother k hki hk))

/-- The whole region. -/
theorem wp_region_stages {Q : Exit → Act → World → Prop} {id : Nat} {w : World} (cs : List Nat) (J : List Bool → World → Prop) (V : List Bool → Nat → Value → World → Prop) (n : Nat) (hcs : ∀ (p q i : Nat), cs[p]? = some i → cs[q]? = some i → q = p) (hin : ∀ c ∈ cs, c < n) (hm : P.follows .mixedOrders = true)
    (hs : Region.sinkB .any ops n = true) (hc : Region.chainB .any ops n = true) (hn : n < ops.size) (hseq : Region.seqB .any ops (ops.size - n) n (headDone n (ops.size - n)) = true)
    (hd : dstsOk ((ops.toList.take n).map (·.dst)) = true) (ha : aftersOkB ops.toList 0 = true)
    (h00 : J (cs.map fun _ => false) w.drew) (hJ : ∀ (bs : List Bool) w1 w2, J bs w1 → Ext w1 w2 → J bs w2)
    (hst : ∀ (bs : List Bool) (k : Nat) v w1 w2, J bs w1 → Ext w1 w2 → V bs k v w1 → V bs k v w2) (hl : LocalsT P ops J V cs (ops.toList.take n) a0 (ops.toList.take n) 0)
    (hE : ∀ u w', J (cs.map fun _ => true) w' → (∀ k, k < n → V (cs.map fun _ => true) k (u k) w') → wpList P ops Q (ops.toList.drop n) (fillOps (ops.toList.take n) u 0 a0) w') : (Code.region id ops true).wp P Q a0 w := by
  have h0 : fillOps (ops.toList.take n) (fun k => (((ops.toList.take n)[k]?).bind fun o => o.dst.bind fun d => a0.tmps[d]?).getD undef) 0 a0 = a0 := by
    refine fill_id _ (ops.toList.take n) 0 a0 fun j o ho => ?_
    simp only [Nat.zero_add, ho, Option.bind_some]
    cases hq : o.dst with
    | none => rfl
    | some d =>
      simp only [Act.put, Option.bind_some]
      by_cases hlt : d < a0.tmps.size
      · rw [Array.getElem?_eq_getElem hlt]
        simp [Array.setIfInBounds, hlt]
      · simp [Array.setIfInBounds, hlt]
  have hr : ∀ k, (Array.replicate ops.size false).getD k false = false := fun k => getD_replicate_false _ _
  refine wp_region_any hm ?_
  have inv0 : HeadInv .any ops n (Array.replicate ops.size false) :=
    ⟨by simp, fun j oj _ hl => (by rw [hr] at hl; cases hl), fun t _ ht => getD_in (by simpa using ht) (hr _)⟩
  have H := wpAny_stages (Q := Q) hs hc hn hseq hcs hin hd ha hJ hst hl hE n (Array.replicate ops.size false) (fun k => (((ops.toList.take n)[k]?).bind fun o => o.dst.bind fun d => a0.tmps[d]?).getD undef) w.drew inv0
    (by simp [List.take_replicate, List.count_replicate]) (by rw [show stage cs (Array.replicate ops.size false) = cs.map fun _ => false from List.map_congr_left fun c _ => getD_rep ops.size c]; exact h00) fun k hk => by rw [hr] at hk; cases hk
  rw [h0, show n + (ops.size - n) = ops.size by omega] at H
  exact H
end
end Go
