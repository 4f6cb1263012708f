/-
  A region that draws its order, by one fact an operation: if every operation, run in any world that extends the first one and where what it waits for holds, only adds to the world and leaves what is said of it, then behind the region all that is said holds. No order is walked.
-/
import Derived.Test.YtmnpbpfeoackiaaBase
import Derived.OrdersHeld
namespace Go
open Go.Proofs.Ytmnpbpfeoackiaa

/-- The frame with every operation's slot filled. -/
@[go_sem] def fillOps : List Oper → (Nat → Value) → Nat → Act → Act
  | [], _, _, a => a
  | o :: r, u, k, a => fillOps r u (k + 1) (a.put o.dst (u k))
/-- No two operations write one slot, and each waits for earlier ones alone. -/
def dstsOk : List (Option Tmp) → Bool
  | [] => true
  | none :: r => dstsOk r
  | some d :: r => !(r.contains (some d)) && dstsOk r
def aftersOk : List Oper → Nat → Bool
  | [], _ => true
  | o :: r, k => o.after.all (fun e => decide (e.on < k)) && aftersOk r (k + 1)

theorem put_put (a : Act) (d : Option Tmp) (x v : Value) : (a.put d x).put d v = a.put d v := by
  cases d with
  | none => rfl
  | some d => simp [Act.put]
theorem fill_put (u : Nat → Value) (v : Value) (d : Option Tmp) : ∀ (r : List Oper) (k : Nat) (a : Act), (∀ o ∈ r, o.dst = d → d = none) → (fillOps r u k a).put d v = fillOps r u k (a.put d v)
  | [], _, _, _ => rfl
  | o :: r, k, a, h => by
    unfold fillOps
    rw [fill_put u v d r (k + 1) _ (fun o' ho => h o' (List.mem_cons_of_mem _ ho))]
    congr 1
    by_cases hd : d = none
    · subst hd; rfl
    · refine Act.put_comm a (u k) v fun t ht he => ?_
      exact hd (h o List.mem_cons_self (ht.trans he.symm))
theorem fill_congr (u u' : Nat → Value) : ∀ (r : List Oper) (k : Nat) (a : Act), (∀ j, k ≤ j → u j = u' j) → fillOps r u k a = fillOps r u' k a
  | [], _, _, _ => rfl
  | o :: r, k, a, h => by
    unfold fillOps
    rw [h k (Nat.le_refl _)]
    exact fill_congr u u' r (k + 1) _ fun j hj => h j (by omega)
theorem fill_id (u : Nat → Value) : ∀ (r : List Oper) (k : Nat) (a : Act), (∀ j o, r[j]? = some o → a.put o.dst (u (k + j)) = a) → fillOps r u k a = a
  | [], _, _, _ => rfl
  | o :: r, k, a, h => by
    unfold fillOps
    rw [show a.put o.dst (u k) = a from h 0 o rfl]
    exact fill_id u r (k + 1) a fun j o' hj => by
      have := h (j + 1) o' (by simpa using hj)
      rw [show k + 1 + j = k + (j + 1) by omega]
      exact this
def upd (u : Nat → Value) (i : Nat) (v : Value) : Nat → Value := fun j => if j = i then v else u j
theorem upd_same (u i v) : upd u i v i = v := if_pos rfl
theorem upd_ne {u i v j} (h : j ≠ i) : upd u i v j = u j := if_neg h
theorem fill_upd (u : Nat → Value) (v : Value) : ∀ (r : List Oper) (k i : Nat) (a : Act) (o : Oper), dstsOk (r.map (·.dst)) = true → r[i]? = some o → (fillOps r u k a).put o.dst v = fillOps r (upd u (k + i) v) k a
  | [], _, _, _, _, _, h => by cases h
  | o' :: r, k, 0, a, o, hd, h => by
    obtain rfl : o' = o := by simpa using h
    have hr : ∀ o ∈ r, o.dst = o'.dst → o'.dst = none := by
      intro o ho he
      cases hq : o'.dst with
      | none => rfl
      | some d =>
        exfalso
        simp only [List.map_cons, hq, dstsOk, Bool.and_eq_true, Bool.not_eq_true'] at hd
        have := hd.1
        rw [← Bool.not_eq_true] at this
        apply this
        rw [List.contains_iff_mem]
        exact List.mem_map.2 ⟨o, ho, he.trans hq⟩
    unfold fillOps
    rw [fill_put u v o'.dst r (k + 1) _ hr, put_put, show upd u (k + 0) v k = v from upd_same u k v]
    exact fill_congr _ _ r (k + 1) _ fun j hj => (upd_ne (by omega)).symm
  | o' :: r, k, i + 1, a, o, hd, h => by
    have hd' : dstsOk (r.map (·.dst)) = true := by
      simp only [List.map_cons] at hd
      cases hq : o'.dst with
      | none => rw [hq] at hd; exact hd
      | some d => rw [hq] at hd; simp only [dstsOk, Bool.and_eq_true] at hd; exact hd.2
    unfold fillOps
    rw [fill_upd u v r (k + 1) i _ o hd' (by simpa using h), show k + (i + 1) = k + 1 + i by omega]
    rw [upd_ne (by omega)]

section
variable {P : Program} {ops : Array Oper} {md : Region.Mode} {w0 : World} {V : Nat → Value → World → Prop} {a0 : Act}

/-- From world w, frame a: operation o leaves a value of which V holds, and adds to the world alone. -/
def OpLeaves (P : Program) (ops : Array Oper) (V : Value → World → Prop) (o : Oper) (a : Act) (w : World) : Prop :=
  (Region.wanted o (yielded ops a.tmps) = true ∧
    ((∃ v w', (execOp a.eval o).run P w = .ok (.value v) w' ∧ Ext w w' ∧ V v w') ∨
     (∃ w', (execOp a.eval o).run P w = .ok .skip w' ∧ Ext w w' ∧ V undef w') ∨
     (∃ f args w', (execOp a.eval o).run P w = .ok (.enter f args) w' ∧ Calls P f args w' fun e w'' => ∃ v, e = .returned v ∧ Ext w w'' ∧ V v w''))) ∨
  (Region.wanted o (yielded ops a.tmps) = false ∧ V undef w)

theorem OpLeaves.wpOp {i : Nat} {o : Oper} {a : Act} {Vi : Value → World → Prop} {Q : Exit → Act → World → Prop} (hi : ops[i]? = some o) {w : World} (hy : OpLeaves P ops Vi o a w)
    {K : Act → World → Prop} (h : ∀ v w', Ext w w' → Vi v w' → K (a.put o.dst v) w') : wpOp P ops Q i K a w := by
  unfold Go.wpOp
  simp only [hi]
  rcases hy with ⟨hw, hv⟩ | ⟨hw, hv⟩
  · simp only [hw, if_true]
    left
    unfold Oper.wp
    rcases hv with ⟨v, w', hr, hE, hv⟩ | ⟨w', hr, hE, hv⟩ | ⟨f, args, w', hr, hc⟩
    · rw [hr]; exact h v w' hE hv
    · rw [hr]; exact h _ w' hE hv
    · rw [hr, Oper.upon_enter]
      refine hc.mono fun e w'' he => ?_
      obtain ⟨v, rfl, hE, hv⟩ := he
      exact h v w'' hE hv
  · simp only [hw, Bool.false_eq_true, if_false]; exact h _ w (Ext.rfl' w) hv

/-- What is to be shown of operation i. -/
def Local (P : Program) (ops : Array Oper) (w0 : World) (V : Nat → Value → World → Prop) (a0 : Act) (i : Nat) (o : Oper) : Prop :=
  ∀ (u : Nat → Value) (w : World), Ext w0 w → (∀ k, (o.after.any fun e => Region.binds .any e && e.on == k) = true → V k (u k) w) → OpLeaves P ops (V i) o (fillOps ops.toList u 0 a0) w
def Locals (P : Program) (ops : Array Oper) (w0 : World) (V : Nat → Value → World → Prop) (a0 : Act) : List Oper → Nat → Prop
  | [], _ => True
  | o :: r, i => Local P ops w0 V a0 i o ∧ Locals P ops w0 V a0 r (i + 1)
theorem locals_nil {i} : Locals P ops w0 V a0 [] i := trivial
theorem locals_cons {o : Oper} {r : List Oper} {i : Nat} (h : Local P ops w0 V a0 i o) (hr : Locals P ops w0 V a0 r (i + 1)) : Locals P ops w0 V a0 (o :: r) i := ⟨h, hr⟩
theorem locals_at : ∀ (r : List Oper) (k i : Nat) (o : Oper), Locals P ops w0 V a0 r k → r[i]? = some o → Local P ops w0 V a0 (k + i) o
  | [], _, _, _, _, h => by cases h
  | o' :: r, k, 0, o, hl, h => by obtain rfl : o' = o := by simpa using h
                                  exact hl.1
  | o' :: r, k, i + 1, o, hl, h => by
    rw [show k + (i + 1) = k + 1 + i by omega]
    exact locals_at r (k + 1) i o hl.2 (by simpa using h)
theorem afters_at : ∀ (r : List Oper) (k i : Nat) (o : Oper), aftersOk r k = true → r[i]? = some o → ∀ e ∈ o.after, e.on < k + i
  | [], _, _, _, _, h, _, _ => by cases h
  | o' :: r, k, 0, o, ha, h, e, he => by
    obtain rfl : o' = o := by simpa using h
    simp only [aftersOk, Bool.and_eq_true] at ha
    have := Array.all_eq_true_iff_forall_mem.1 ha.1 e he
    simpa using this
  | o' :: r, k, i + 1, o, ha, h, e, he => by
    simp only [aftersOk, Bool.and_eq_true] at ha
    have := afters_at r (k + 1) i o ha.2 (by simpa using h) e he
    omega

theorem count_set : ∀ (l : List Bool) (i : Nat), l[i]? = some false → (l.set i true).count true = l.count true + 1
  | [], _, h => by cases h
  | b :: l, 0, h => by obtain rfl : b = false := by simpa using h
                       simp
  | b :: l, i + 1, h => by
    have := count_set l i (by simpa using h)
    simp only [List.set_cons_succ, List.count_cons]
    omega

theorem wpAny_locals {Q : Exit → Act → World → Prop} (hd : dstsOk (ops.toList.map (·.dst)) = true) (ha : aftersOk ops.toList 0 = true)
    (hst : ∀ k v w w', Ext w0 w → Ext w w' → V k v w → V k v w') (hl : Locals P ops w0 V a0 ops.toList 0)
    (hE : ∀ u w, Ext w0 w → (∀ k, k < ops.size → V k (u k) w) → Q .normal (fillOps ops.toList u 0 a0) w) :
    ∀ (fuel : Nat) (listed : Array Bool) (u : Nat → Value) (w : World), listed.size = ops.size → listed.toList.count true + fuel = ops.size → Ext w0 w →
      (∀ k, listed.getD k false = true → V k (u k) w) → wpAny P .any ops Q fuel listed (fillOps ops.toList u 0 a0) w := by
  intro fuel
  induction fuel with
  | zero =>
    intro listed u w hsz hc hw hV
    have hall : ∀ k, k < ops.size → listed.getD k false = true := by
      intro k hk
      have h1 : ∀ b ∈ listed.toList, true = b := List.count_eq_length.1 (by simpa [hsz] using hc)
      have hk' : k < listed.size := by omega
      rw [Array.getD_eq_getD_getElem?, Array.getElem?_eq_getElem hk']
      exact (h1 _ (by simp)).symm
    refine ⟨?_, hE u w hw fun k hk => hV k (hall k hk)⟩
    rw [List.eq_nil_iff_forall_not_mem]
    intro j hj
    obtain ⟨h0, o, ho, _⟩ := mem_ready.1 hj
    have hj' : j < ops.size := (Array.getElem?_eq_some_iff.1 ho).1
    have := hall j hj'
    have hk' : j < listed.size := by omega
    rw [Array.getD_eq_getD_getElem?, Array.getElem?_eq_getElem hk'] at this h0
    simp at this h0
    rw [this] at h0; cases h0
  | succ fuel ih =>
    intro listed u w hsz hc hw hV
    refine ⟨fun hr => hE u w hw fun k hk => ?_, fun i hi => ?_⟩
    · -- nothing is ready: all is listed
      refine hV k ?_
      have : ∀ k, k < ops.size → listed.getD k false = true := by
        intro k
        induction k using Nat.strongRecOn with
        | ind k ihk =>
          intro hk
          cases hb : listed.getD k false with
          | true => rfl
          | false =>
            exfalso
            have hk' : k < listed.size := by omega
            have hmem : k ∈ Region.ready .any ops listed := by
              rw [mem_ready]
              refine ⟨?_, ops[k], Array.getElem?_eq_getElem hk, fun e he _ => ?_⟩
              · rw [Array.getD_eq_getD_getElem?, Array.getElem?_eq_getElem hk'] at hb ⊢
                simpa using hb
              · have := afters_at ops.toList 0 k ops[k] ha (by simp [hk]) e he
                exact ihk e.on (by omega) (by omega)
            rw [hr] at hmem
            cases hmem
      exact this k hk
    · obtain ⟨h0, o, ho, hall⟩ := mem_ready.1 hi
      have hi' : i < ops.size := (Array.getElem?_eq_some_iff.1 ho).1
      have hk' : i < listed.size := by omega
      have ho' : ops.toList[i]? = some o := by rw [Array.getElem?_toList]; exact ho
      have hL := locals_at ops.toList 0 i o hl ho'
      rw [Nat.zero_add] at hL
      have hs := hL u w hw (fun k hk => by
        rw [Array.any_eq_true] at hk
        obtain ⟨q, hq, he⟩ := hk
        rw [Bool.and_eq_true] at he
        have := hall _ (Array.getElem_mem hq) he.1
        rw [beq_iff_eq.1 he.2] at this
        exact hV k this)
      refine hs.wpOp ho fun v w' hE' hv => ?_
      rw [fill_upd u v ops.toList 0 i a0 o hd ho', Nat.zero_add]
      refine ih (listed.setIfInBounds i true) (upd u i v) w' (by simpa using hsz) ?_ (hw.tr hE') fun k hk => ?_
      · have hf : listed.toList[i]? = some false := by
          rw [Array.getD_eq_getD_getElem?, Array.getElem?_eq_getElem hk'] at h0
          rw [Array.getElem?_toList, Array.getElem?_eq_getElem hk']
          simpa using h0
        have := count_set listed.toList i hf
        rw [Array.toList_setIfInBounds, this]
        omega
      · by_cases hki : k = i
        · subst hki; rw [upd_same]; exact hv
        · rw [upd_ne hki]
          refine hst k _ w w' hw hE' (hV k ?_)
          rw [Array.getD_eq_getD_getElem?, Array.getElem?_setIfInBounds_ne (Ne.symm hki)] at hk
          rw [Array.getD_eq_getD_getElem?]
          exact hk

theorem leaves_val {o : Oper} {a : Act} {w : World} {Vi : Value → World → Prop} {v : Value} (hw : Region.wanted o (yielded ops a.tmps) = true) (h : (execOp a.eval o).run P w = .ok (.value v) w) (hv : Vi v w) : OpLeaves P ops Vi o a w :=
  .inl ⟨hw, .inl ⟨v, w, h, Ext.rfl' w, hv⟩⟩
theorem leaves_new {o : Oper} {a : Act} {w w' : World} {Vi : Value → World → Prop} {v : Value} (hw : Region.wanted o (yielded ops a.tmps) = true) (h : (execOp a.eval o).run P w = .ok (.value v) w') (hE : Ext w w') (hv : Vi v w') : OpLeaves P ops Vi o a w :=
  .inl ⟨hw, .inl ⟨v, w', h, hE, hv⟩⟩
theorem leaves_call {o : Oper} {a : Act} {w : World} {Vi : Value → World → Prop} {f : FuncId} {args : Array Value} (hw : Region.wanted o (yielded ops a.tmps) = true) (h : (execOp a.eval o).run P w = .ok (.enter f args) w)
    (hc : Calls P f args w fun e w'' => ∃ v, e = .returned v ∧ Ext w w'' ∧ Vi v w'') : OpLeaves P ops Vi o a w :=
  .inl ⟨hw, .inr (.inr ⟨f, args, w, h, hc⟩)⟩
/-- The whole region. -/
theorem wp_region_locals {Q : Exit → Act → World → Prop} {id : Nat} {w : World} (V : Nat → Value → World → Prop) (hm : P.follows .mixedOrders = true)
    (hd : dstsOk (ops.toList.map (·.dst)) = true) (ha : aftersOk ops.toList 0 = true)
    (hst : ∀ k v w1 w2, Ext w w1 → Ext w1 w2 → V k v w1 → V k v w2) (hl : Locals P ops w V a0 ops.toList 0)
    (hE : ∀ u w', Ext w w' → (∀ k, k < ops.size → V k (u k) w') → Q .normal (fillOps ops.toList u 0 a0) w') : (Code.region id ops true).wp P Q a0 w := by
  have h0 : fillOps ops.toList (fun k => ((ops.toList[k]?).bind fun o => o.dst.bind fun d => a0.tmps[d]?).getD undef) 0 a0 = a0 := by
    refine fill_id _ ops.toList 0 a0 fun j o ho => ?_
    simp only [Nat.zero_add, ho, Option.bind_some]
    cases hq : o.dst with
    | none => rfl
    | some d =>
      simp only [Act.put, Option.bind_some]
      by_cases hlt : d < a0.tmps.size
      · rw [Array.getElem?_eq_getElem hlt]
        simp [Array.setIfInBounds, hlt]
      · simp [Array.setIfInBounds, hlt]
  refine wp_region_any hm ?_
  rw [← h0]
  refine wpAny_locals (w0 := w) hd ha hst hl hE ops.size _ _ _ (by simp) (by simp [List.count_replicate]) (Ext.rfl' w).dr fun k hk => ?_
  exfalso
  rw [Array.getD_eq_getD_getElem?, Array.getElem?_replicate] at hk
  split at hk <;> simp at hk
end
end Go
