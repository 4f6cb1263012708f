/-
  SHA-256 over lists: blocks of a text in two parts, the running sum of a text that is added part by part. No program in sight. · A region that draws its order, by one fact an operation: if every operation, run in any world that extends the first one and where what it waits for holds, only adds to the world and leaves what is said of it, then behind the region all that is said holds. No order is walked. · A region that draws its order and whose world is told by which operations have run: if every operation, run where what it waits for has run, leaves its one value and the world that is told next, then behind the region all values stand and the world is the last one. No order is walked. · A region that draws its order, whose operations only add to the world but for a last one, a store, that waits for all the others: by one fact an operation. No order is walked. · Package sha: the sum of a text; a hash of nothing, parts added to it, its sum and length. Conditions: the package's table holds the constants; at most 900000 bytes. · Package sha: the sum of a hash. Conditions: the package's table holds the constants; at most 900000 bytes. · []byte(s): a row of bytes of the call's own, whose mark lies behind its cells; append onto such a row, string of it. Condition: Go's own limits on lengths and bytes. · Package sha's reference: the padded text. Condition: at most 1000000 bytes. · A region that draws its order, whose first n operations only add to the world, and whose other operations come last, one behind the other: the first ones by one fact an operation, the last ones as a plain list. No order is walked. · Package sha's reference: words as bytes. No condition.
-/
import Derived.Test.YtejhiekikblbiaaGreatDoorMgA
import Derived.OrdersHeld
import Derived.Test.YtejhiekikblbiaaGreatDoorMgB
import Derived.Lib.ConvBytes
import Derived.Lib.FrozenHead
import Derived.StillTail
namespace Go.Proofs.YtejhiekikblbiaaGreatDoor
open Go.RowKit

theorem cutL_append : ∀ (n : Nat) (a b : List UInt8), a.length = 64 * n → cutL 64 (a ++ b) = cutL 64 a ++ cutL 64 b
  | 0, a, b, h => by
    have : a = [] := List.eq_nil_of_length_eq_zero (by omega)
    subst this
    rfl
  | n + 1, a, b, h => by
    rw [cutL_cons (by omega) (by rw [List.length_append]; omega), cutL_cons (by omega) (show 0 < a.length by omega), List.take_append_of_le_length (by omega), List.drop_append_of_le_length (by omega),
      cutL_append n (a.drop 64) b (by rw [List.length_drop]; omega)]
    rfl
/-- The words behind all blocks. -/
def foldS (v : St) (s : List UInt8) : St := (cutL 64 s).foldl stepS v
theorem foldS_append (n : Nat) (v : St) (a b : List UInt8) (h : a.length = 64 * n) : foldS v (a ++ b) = foldS (foldS v a) b := by
  unfold foldS
  rw [cutL_append n a b h, List.foldl_append]
theorem overS_fold : ∀ (n : Nat) (v : St) (s : List UInt8), s.length = 64 * n → overS n v s = foldS v s
  | 0, v, s, h => by
    have : s = [] := List.eq_nil_of_length_eq_zero (by omega)
    subst this
    rfl
  | n + 1, v, s, h => by
    unfold foldS
    rw [cutL_cons (by omega) (by omega), List.foldl_cons]
    exact overS_fold n _ _ (by rw [List.length_drop]; omega)
theorem sumL_fold (s : List UInt8) : sumL s = tellS (foldS initS (shaPad s)) := by
  unfold sumL
  rw [overS_fold _ _ _ (by have := shaPad_whole s; omega)]

/-- The words behind the whole blocks of a text, and what is left of it. -/
def stOf (t : List UInt8) : St := foldS initS (t.take (t.length / 64 * 64))
def tlOf (t : List UInt8) : List UInt8 := t.drop (t.length / 64 * 64)
theorem length_tlOf (t : List UInt8) : (tlOf t).length = t.length % 64 := by unfold tlOf; rw [List.length_drop]; omega
theorem split_tl (t : List UInt8) : t.take (t.length / 64 * 64) ++ tlOf t = t := List.take_append_drop _ _
theorem length_hd (t : List UInt8) : (t.take (t.length / 64 * 64)).length = 64 * (t.length / 64) := by rw [List.length_take]; omega
theorem parts_eq (t s : List UInt8) : (t ++ s).take ((t ++ s).length / 64 * 64) = t.take (t.length / 64 * 64) ++ (tlOf t ++ s).take ((tlOf t ++ s).length / 64 * 64) ∧
    (t ++ s).drop ((t ++ s).length / 64 * 64) = (tlOf t ++ s).drop ((tlOf t ++ s).length / 64 * 64) := by
  have e : t ++ s = t.take (t.length / 64 * 64) ++ (tlOf t ++ s) := by rw [← List.append_assoc, split_tl]
  have hl : (t ++ s).length / 64 * 64 = (t.take (t.length / 64 * 64)).length + (tlOf t ++ s).length / 64 * 64 := by
    rw [length_hd, List.length_append, List.length_append, length_tlOf]
    omega
  rw [hl]
  constructor
  · conv => lhs; rw [e]
    rw [List.take_length_add_append]
  · conv => lhs; rw [e]
    rw [List.drop_length_add_append]
theorem stOf_add (t s : List UInt8) : foldS (stOf t) ((tlOf t ++ s).take ((tlOf t ++ s).length / 64 * 64)) = stOf (t ++ s) := by
  unfold stOf
  rw [(parts_eq t s).1, foldS_append _ _ _ _ (length_hd t)]
theorem tlOf_add (t s : List UInt8) : (tlOf t ++ s).drop ((tlOf t ++ s).length / 64 * 64) = tlOf (t ++ s) := (parts_eq t s).2.symm
theorem sum_parts (t : List UInt8) : tellS (foldS (stOf t) (tlOf t ++ endingL t.length)) = sumL t := by
  rw [sumL_fold]
  unfold stOf shaPad
  rw [← foldS_append _ _ _ _ (length_hd t), ← List.append_assoc, split_tl]
theorem stOf_nil : stOf [] = initS := rfl
theorem tlOf_nil : tlOf [] = [] := rfl
end Go.Proofs.YtejhiekikblbiaaGreatDoor

namespace Go
open Go.Proofs.YtejhiekikblbiaaGreatDoor

/-- The frame with every operation's slot filled. -/
@[go_sem] def fillOps : List Oper → (Nat → Value) → Nat → Act → Act
  | [], _, _, a => a
  | o :: r, u, k, a => fillOps r u (k + 1) (a.put o.dst (u k))
/-- No two operations write one slot, and each waits for earlier ones alone. -/
def dstsOk : List (Option Tmp) → Bool
  | [] => true
  | none :: r => dstsOk r
  | some d :: r => !(r.contains (some d)) && dstsOk r
def aftersOk : List Oper → Nat → Bool
  | [], _ => true
  | o :: r, k => o.after.all (fun e => decide (e.on < k)) && aftersOk r (k + 1)

theorem put_put (a : Act) (d : Option Tmp) (x v : Value) : (a.put d x).put d v = a.put d v := by
  cases d with
  | none => rfl
  | some d => simp [Act.put]
theorem fill_put (u : Nat → Value) (v : Value) (d : Option Tmp) : ∀ (r : List Oper) (k : Nat) (a : Act), (∀ o ∈ r, o.dst = d → d = none) → (fillOps r u k a).put d v = fillOps r u k (a.put d v)
  | [], _, _, _ => rfl
  | o :: r, k, a, h => by
    unfold fillOps
    rw [fill_put u v d r (k + 1) _ (fun o' ho => h o' (List.mem_cons_of_mem _ ho))]
    congr 1
    by_cases hd : d = none
    · subst hd; rfl
    · refine Act.put_comm a (u k) v fun t ht he => ?_
      exact hd (h o List.mem_cons_self (ht.trans he.symm))
theorem fill_congr (u u' : Nat → Value) : ∀ (r : List Oper) (k : Nat) (a : Act), (∀ j, k ≤ j → u j = u' j) → fillOps r u k a = fillOps r u' k a
  | [], _, _, _ => rfl
  | o :: r, k, a, h => by
    unfold fillOps
    rw [h k (Nat.le_refl _)]
    exact fill_congr u u' r (k + 1) _ fun j hj => h j (by omega)
theorem fill_id (u : Nat → Value) : ∀ (r : List Oper) (k : Nat) (a : Act), (∀ j o, r[j]? = some o → a.put o.dst (u (k + j)) = a) → fillOps r u k a = a
  | [], _, _, _ => rfl
  | o :: r, k, a, h => by
    unfold fillOps
    rw [show a.put o.dst (u k) = a from h 0 o rfl]
    exact fill_id u r (k + 1) a fun j o' hj => by
      have := h (j + 1) o' (by simpa using hj)
      rw [show k + 1 + j = k + (j + 1) by omega]
      exact this
def upd (u : Nat → Value) (i : Nat) (v : Value) : Nat → Value := fun j => if j = i then v else u j
theorem upd_same (u i v) : upd u i v i = v := if_pos rfl
theorem upd_ne {u i v j} (h : j ≠ i) : upd u i v j = u j := if_neg h
theorem fill_upd (u : Nat → Value) (v : Value) : ∀ (r : List Oper) (k i : Nat) (a : Act) (o : Oper), dstsOk (r.map (·.dst)) = true → r[i]? = some o → (fillOps r u k a).put o.dst v = fillOps r (upd u (k + i) v) k a
  | [], _, _, _, _, _, h => by cases h
  | o' :: r, k, 0, a, o, hd, h => by
    obtain rfl : o' = o := by simpa using h
    have hr : ∀ o ∈ r, o.dst = o'.dst → o'.dst = none := by
      intro o ho he
      cases hq : o'.dst with
      | none => rfl
      | some d =>
        exfalso
        simp only [List.map_cons, hq, dstsOk, Bool.and_eq_true, Bool.not_eq_true'] at hd
        have := hd.1
        rw [← Bool.not_eq_true] at this
        apply this
        rw [List.contains_iff_mem]
        exact List.mem_map.2 ⟨o, ho, he.trans hq⟩
    unfold fillOps
    rw [fill_put u v o'.dst r (k + 1) _ hr, put_put, show upd u (k + 0) v k = v from upd_same u k v]
    exact fill_congr _ _ r (k + 1) _ fun j hj => (upd_ne (by omega)).symm
  | o' :: r, k, i + 1, a, o, hd, h => by
    have hd' : dstsOk (r.map (·.dst)) = true := by
      simp only [List.map_cons] at hd
      cases hq : o'.dst with
      | none => rw [hq] at hd; exact hd
      | some d => rw [hq] at hd; simp only [dstsOk, Bool.and_eq_true] at hd; exact hd.2
    unfold fillOps
    rw [fill_upd u v r (k + 1) i _ o hd' (by simpa using h), show k + (i + 1) = k + 1 + i by omega]
    rw [upd_ne (by omega)]

section
variable {P : Program} {ops : Array Oper} {md : Region.Mode} {w0 : World} {V : Nat → Value → World → Prop} {a0 : Act}

/-- From world w, frame a: operation o leaves a value of which V holds, and adds to the world alone. -/
def OpLeaves (P : Program) (ops : Array Oper) (V : Value → World → Prop) (o : Oper) (a : Act) (w : World) : Prop :=
  (Region.wanted o (yielded ops a.tmps) = true ∧
    ((∃ v w', (execOp a.eval o).run P w = .ok (.value v) w' ∧ Ext w w' ∧ V v w') ∨
     (∃ w', (execOp a.eval o).run P w = .ok .skip w' ∧ Ext w w' ∧ V undef w') ∨
     (∃ f args w', (execOp a.eval o).run P w = .ok (.enter f args) w' ∧ Calls P f args w' fun e w'' => ∃ v, e = .returned v ∧ Ext w w'' ∧ V v w''))) ∨
  (Region.wanted o (yielded ops a.tmps) = false ∧ V undef w)

theorem OpLeaves.wpOp {i : Nat} {o : Oper} {a : Act} {Vi : Value → World → Prop} {Q : Exit → Act → World → Prop} (hi : ops[i]? = some o) {w : World} (hy : OpLeaves P ops Vi o a w)
    {K : Act → World → Prop} (h : ∀ v w', Ext w w' → Vi v w' → K (a.put o.dst v) w') : wpOp P ops Q i K a w := by
  unfold Go.wpOp
  simp only [hi]
  rcases hy with ⟨hw, hv⟩ | ⟨hw, hv⟩
  · simp only [hw, if_true]
    left
    unfold Oper.wp
    rcases hv with ⟨v, w', hr, hE, hv⟩ | ⟨w', hr, hE, hv⟩ | ⟨f, args, w', hr, hc⟩
    · rw [hr]; exact h v w' hE hv
    · rw [hr]; exact h _ w' hE hv
    · rw [hr, Oper.upon_enter]
      refine hc.mono fun e w'' he => ?_
      obtain ⟨v, rfl, hE, hv⟩ := he
      exact h v w'' hE hv
  · simp only [hw, Bool.false_eq_true, if_false]; exact h _ w (Ext.rfl' w) hv

/-- What is to be shown of operation i. -/
def Local (P : Program) (ops : Array Oper) (w0 : World) (V : Nat → Value → World → Prop) (a0 : Act) (i : Nat) (o : Oper) : Prop :=
  ∀ (u : Nat → Value) (w : World), Ext w0 w → (∀ k, (o.after.any fun e => Region.binds .any e && e.on == k) = true → V k (u k) w) → OpLeaves P ops (V i) o (fillOps ops.toList u 0 a0) w
def Locals (P : Program) (ops : Array Oper) (w0 : World) (V : Nat → Value → World → Prop) (a0 : Act) : List Oper → Nat → Prop
  | [], _ => True
  | o :: r, i => Local P ops w0 V a0 i o ∧ Locals P ops w0 V a0 r (i + 1)
theorem locals_nil {i} : Locals P ops w0 V a0 [] i := trivial
theorem locals_cons {o : Oper} {r : List Oper} {i : Nat} (h : Local P ops w0 V a0 i o) (hr : Locals P ops w0 V a0 r (i + 1)) : Locals P ops w0 V a0 (o :: r) i := ⟨h, hr⟩
theorem locals_at : ∀ (r : List Oper) (k i : Nat) (o : Oper), Locals P ops w0 V a0 r k → r[i]? = some o → Local P ops w0 V a0 (k + i) o
  | [], _, _, _, _, h => by cases h
  | o' :: r, k, 0, o, hl, h => by obtain rfl : o' = o := by simpa using h
                                  exact hl.1
  | o' :: r, k, i + 1, o, hl, h => by
    rw [show k + (i + 1) = k + 1 + i by omega]
    exact locals_at r (k + 1) i o hl.2 (by simpa using h)
theorem afters_at : ∀ (r : List Oper) (k i : Nat) (o : Oper), aftersOk r k = true → r[i]? = some o → ∀ e ∈ o.after, e.on < k + i
  | [], _, _, _, _, h, _, _ => by cases h
  | o' :: r, k, 0, o, ha, h, e, he => by
    obtain rfl : o' = o := by simpa using h
    simp only [aftersOk, Bool.and_eq_true] at ha
    have := Array.all_eq_true_iff_forall_mem.1 ha.1 e he
    simpa using this
  | o' :: r, k, i + 1, o, ha, h, e, he => by
    simp only [aftersOk, Bool.and_eq_true] at ha
    have := afters_at r (k + 1) i o ha.2 (by simpa using h) e he
    omega

theorem count_set : ∀ (l : List Bool) (i : Nat), l[i]? = some false → (l.set i true).count true = l.count true + 1
  | [], _, h => by cases h
  | b :: l, 0, h => by obtain rfl : b = false := by simpa using h
                       simp
  | b :: l, i + 1, h => by
    have := count_set l i (by simpa using h)
    simp only [List.set_cons_succ, List.count_cons]
    omega

theorem wpAny_locals {Q : Exit → Act → World → Prop} (hd : dstsOk (ops.toList.map (·.dst)) = true) (ha : aftersOk ops.toList 0 = true)
    (hst : ∀ k v w w', Ext w0 w → Ext w w' → V k v w → V k v w') (hl : Locals P ops w0 V a0 ops.toList 0)
    (hE : ∀ u w, Ext w0 w → (∀ k, k < ops.size → V k (u k) w) → Q .normal (fillOps ops.toList u 0 a0) w) :
    ∀ (fuel : Nat) (listed : Array Bool) (u : Nat → Value) (w : World), listed.size = ops.size → listed.toList.count true + fuel = ops.size → Ext w0 w →
      (∀ k, listed.getD k false = true → V k (u k) w) → wpAny P .any ops Q fuel listed (fillOps ops.toList u 0 a0) w := by
  intro fuel
  induction fuel with
  | zero =>
    intro listed u w hsz hc hw hV
    have hall : ∀ k, k < ops.size → listed.getD k false = true := by
      intro k hk
      have h1 : ∀ b ∈ listed.toList, true = b := List.count_eq_length.1 (by simpa [hsz] using hc)
      have hk' : k < listed.size := by omega
      rw [Array.getD_eq_getD_getElem?, Array.getElem?_eq_getElem hk']
      exact (h1 _ (by simp)).symm
    refine ⟨?_, hE u w hw fun k hk => hV k (hall k hk)⟩
    rw [List.eq_nil_iff_forall_not_mem]
    intro j hj
    obtain ⟨h0, o, ho, _⟩ := mem_ready.1 hj
    have hj' : j < ops.size := (Array.getElem?_eq_some_iff.1 ho).1
    have := hall j hj'
    have hk' : j < listed.size := by omega
    rw [Array.getD_eq_getD_getElem?, Array.getElem?_eq_getElem hk'] at this h0
    simp at this h0
    rw [this] at h0; cases h0
  | succ fuel ih =>
    intro listed u w hsz hc hw hV
    refine ⟨fun hr => hE u w hw fun k hk => ?_, fun i hi => ?_⟩
    · -- nothing is ready: all is listed
      refine hV k ?_
      have : ∀ k, k < ops.size → listed.getD k false = true := by
        intro k
        induction k using Nat.strongRecOn with
        | ind k ihk =>
          intro hk
          cases hb : listed.getD k false with
          | true => rfl
          | false =>
            exfalso
            have hk' : k < listed.size := by omega
            have hmem : k ∈ Region.ready .any ops listed := by
              rw [mem_ready]
              refine ⟨?_, ops[k], Array.getElem?_eq_getElem hk, fun e he _ => ?_⟩
              · rw [Array.getD_eq_getD_getElem?, Array.getElem?_eq_getElem hk'] at hb ⊢
                simpa using hb
              · have := afters_at ops.toList 0 k ops[k] ha (by simp [hk]) e he
                exact ihk e.on (by omega) (by omega)
            rw [hr] at hmem
            cases hmem
      exact this k hk
    · obtain ⟨h0, o, ho, hall⟩ := mem_ready.1 hi
      have hi' : i < ops.size := (Array.getElem?_eq_some_iff.1 ho).1
      have hk' : i < listed.size := by omega
      have ho' : ops.toList[i]? = some o := by rw [Array.getElem?_toList]; exact ho
      have hL := locals_at ops.toList 0 i o hl ho'
      rw [Nat.zero_add] at hL
      have hs := hL u w hw (fun k hk => by
        rw [Array.any_eq_true] at hk
        obtain ⟨q, hq, he⟩ := hk
        rw [Bool.and_eq_true] at he
        have := hall _ (Array.getElem_mem hq) he.1
        rw [beq_iff_eq.1 he.2] at this
        exact hV k this)
      refine hs.wpOp ho fun v w' hE' hv => ?_
      rw [fill_upd u v ops.toList 0 i a0 o hd ho', Nat.zero_add]
      refine ih (listed.setIfInBounds i true) (upd u i v) w' (by simpa using hsz) ?_ (hw.tr hE') fun k hk => ?_
      · have hf : listed.toList[i]? = some false := by
          rw [Array.getD_eq_getD_getElem?, Array.getElem?_eq_getElem hk'] at h0
          rw [Array.getElem?_toList, Array.getElem?_eq_getElem hk']
          simpa using h0
        have := count_set listed.toList i hf
        rw [Array.toList_setIfInBounds, this]
        omega
      · by_cases hki : k = i
        · subst hki; rw [upd_same]; exact hv
        · rw [upd_ne hki]
          refine hst k _ w w' hw hE' (hV k ?_)
          rw [Array.getD_eq_getD_getElem?, Array.getElem?_setIfInBounds_ne (Ne.symm hki)] at hk
          rw [Array.getD_eq_getD_getElem?]
          exact hk

theorem leaves_val {o : Oper} {a : Act} {w : World} {Vi : Value → World → Prop} {v : Value} (hw : Region.wanted o (yielded ops a.tmps) = true) (h : (execOp a.eval o).run P w = .ok (.value v) w) (hv : Vi v w) : OpLeaves P ops Vi o a w :=
  .inl ⟨hw, .inl ⟨v, w, h, Ext.rfl' w, hv⟩⟩
theorem leaves_new {o : Oper} {a : Act} {w w' : World} {Vi : Value → World → Prop} {v : Value} (hw : Region.wanted o (yielded ops a.tmps) = true) (h : (execOp a.eval o).run P w = .ok (.value v) w') (hE : Ext w w') (hv : Vi v w') : OpLeaves P ops Vi o a w :=
  .inl ⟨hw, .inl ⟨v, w', h, hE, hv⟩⟩
theorem leaves_call {o : Oper} {a : Act} {w : World} {Vi : Value → World → Prop} {f : FuncId} {args : Array Value} (hw : Region.wanted o (yielded ops a.tmps) = true) (h : (execOp a.eval o).run P w = .ok (.enter f args) w)
    (hc : Calls P f args w fun e w'' => ∃ v, e = .returned v ∧ Ext w w'' ∧ Vi v w'') : OpLeaves P ops Vi o a w :=
  .inl ⟨hw, .inr (.inr ⟨f, args, w, h, hc⟩)⟩
/-- The whole region. -/
theorem wp_region_locals {Q : Exit → Act → World → Prop} {id : Nat} {w : World} (V : Nat → Value → World → Prop) (hm : P.follows .mixedOrders = true)
    (hd : dstsOk (ops.toList.map (·.dst)) = true) (ha : aftersOk ops.toList 0 = true)
    (hst : ∀ k v w1 w2, Ext w w1 → Ext w1 w2 → V k v w1 → V k v w2) (hl : Locals P ops w V a0 ops.toList 0)
    (hE : ∀ u w', Ext w w' → (∀ k, k < ops.size → V k (u k) w') → Q .normal (fillOps ops.toList u 0 a0) w') : (Code.region id ops true).wp P Q a0 w := by
  have h0 : fillOps ops.toList (fun k => ((ops.toList[k]?).bind fun o => o.dst.bind fun d => a0.tmps[d]?).getD undef) 0 a0 = a0 := by
    refine fill_id _ ops.toList 0 a0 fun j o ho => ?_
    simp only [Nat.zero_add, ho, Option.bind_some]
    cases hq : o.dst with
    | none => rfl
    | some d =>
      simp only [Act.put, Option.bind_some]
      by_cases hlt : d < a0.tmps.size
      · rw [Array.getElem?_eq_getElem hlt]
        simp [Array.setIfInBounds, hlt]
      · simp [Array.setIfInBounds, hlt]
  refine wp_region_any hm ?_
  rw [← h0]
  refine wpAny_locals (w0 := w) hd ha hst hl hE ops.size _ _ _ (by simp) (by simp [List.count_replicate]) (Ext.rfl' w).dr fun k hk => ?_
  exfalso
  rw [Array.getD_eq_getD_getElem?, Array.getElem?_replicate] at hk
  split at hk <;> simp at hk
end
end Go

namespace Go
open Go.Proofs.YtejhiekikblbiaaGreatDoor

section
variable {P : Program} {ops : Array Oper} {a0 : Act}

def setL (L : Nat → Bool) (i : Nat) : Nat → Bool := fun k => if k = i then true else L k
/-- What operation j waits for. -/
def waitsFor (ops : Array Oper) (j k : Nat) : Bool := ((ops[j]?).map fun o => o.after.any fun e => Region.binds .any e && e.on == k).getD false

/-- What is to be shown of operation i. -/
def LocalS (P : Program) (ops : Array Oper) (c : Nat → Value) (wOf : (Nat → Bool) → World) (a0 : Act) (i : Nat) (o : Oper) : Prop :=
  ∀ (u : Nat → Value) (L : Nat → Bool), L i = false → (∀ j k, L j = true → waitsFor ops j k = true → L k = true) → (∀ k, waitsFor ops i k = true → L k = true ∧ u k = c k) →
    Region.wanted o (yielded ops (fillOps ops.toList u 0 a0).tmps) = true ∧
    ((execOp (fillOps ops.toList u 0 a0).eval o).run P (wOf L) = .ok (.value (c i)) (wOf (setL L i)) ∨
     (c i = undef ∧ (execOp (fillOps ops.toList u 0 a0).eval o).run P (wOf L) = .ok .skip (wOf (setL L i))) ∨
     (∃ f args, (execOp (fillOps ops.toList u 0 a0).eval o).run P (wOf L) = .ok (.enter f args) (wOf L) ∧ Calls P f args (wOf L) fun e w'' => e = .returned (c i) ∧ w'' = wOf (setL L i)))
def LocalsS (P : Program) (ops : Array Oper) (c : Nat → Value) (wOf : (Nat → Bool) → World) (a0 : Act) : List Oper → Nat → Prop
  | [], _ => True
  | o :: r, i => LocalS P ops c wOf a0 i o ∧ LocalsS P ops c wOf a0 r (i + 1)
variable {c : Nat → Value} {wOf : (Nat → Bool) → World}
theorem localsS_nil {i} : LocalsS P ops c wOf a0 [] i := trivial
theorem localsS_cons {o : Oper} {r : List Oper} {i : Nat} (h : LocalS P ops c wOf a0 i o) (hr : LocalsS P ops c wOf a0 r (i + 1)) : LocalsS P ops c wOf a0 (o :: r) i := ⟨h, hr⟩
theorem localsS_at : ∀ (r : List Oper) (k i : Nat) (o : Oper), LocalsS P ops c wOf a0 r k → r[i]? = some o → LocalS P ops c wOf a0 (k + i) o
  | [], _, _, _, _, h => by cases h
  | o' :: r, k, 0, o, hl, h => by obtain rfl : o' = o := by simpa using h
                                  exact hl.1
  | o' :: r, k, i + 1, o, hl, h => by
    rw [show k + (i + 1) = k + 1 + i by omega]
    exact localsS_at r (k + 1) i o hl.2 (by simpa using h)

theorem waits_at {j k : Nat} {o : Oper} (ho : ops[j]? = some o) (h : waitsFor ops j k = true) : ∃ e ∈ o.after, Region.binds .any e = true ∧ e.on = k := by
  unfold waitsFor at h
  rw [ho] at h
  simp only [Option.map_some, Option.getD_some] at h
  rw [Array.any_eq_true] at h
  obtain ⟨q, hq, he⟩ := h
  rw [Bool.and_eq_true] at he
  exact ⟨_, Array.getElem_mem hq, he.1, by simpa using he.2⟩

theorem wpAny_states {Q : Exit → Act → World → Prop} (hd : dstsOk (ops.toList.map (·.dst)) = true) (ha : aftersOk ops.toList 0 = true) (hl : LocalsS P ops c wOf a0 ops.toList 0)
    (hE : ∀ u L, (∀ k, k < ops.size → L k = true ∧ u k = c k) → Q .normal (fillOps ops.toList u 0 a0) (wOf L)) :
    ∀ (fuel : Nat) (listed : Array Bool) (u : Nat → Value), listed.size = ops.size → listed.toList.count true + fuel = ops.size →
      (∀ j k, listed.getD j false = true → waitsFor ops j k = true → listed.getD k false = true) →
      (∀ k, listed.getD k false = true → u k = c k) → wpAny P .any ops Q fuel listed (fillOps ops.toList u 0 a0) (wOf fun k => listed.getD k false) := by
  intro fuel
  induction fuel with
  | zero =>
    intro listed u hsz hc hcl hV
    have hall : ∀ k, k < ops.size → listed.getD k false = true := by
      intro k hk
      have h1 : ∀ b ∈ listed.toList, true = b := List.count_eq_length.1 (by simpa [hsz] using hc)
      have hk' : k < listed.size := by omega
      rw [Array.getD_eq_getD_getElem?, Array.getElem?_eq_getElem hk']
      exact (h1 _ (by simp)).symm
    refine ⟨?_, hE u _ fun k hk => ⟨hall k hk, hV k (hall k hk)⟩⟩
    rw [List.eq_nil_iff_forall_not_mem]
    intro j hj
    obtain ⟨h0, o, ho, _⟩ := mem_ready.1 hj
    have hj' : j < ops.size := (Array.getElem?_eq_some_iff.1 ho).1
    have := hall j hj'
    have hk' : j < listed.size := by omega
    rw [Array.getD_eq_getD_getElem?, Array.getElem?_eq_getElem hk'] at this h0
    simp at this h0
    rw [this] at h0; cases h0
  | succ fuel ih =>
    intro listed u hsz hc hcl hV
    refine ⟨fun hr => hE u _ fun k hk => ?_, fun i hi => ?_⟩
    · have : ∀ k, k < ops.size → listed.getD k false = true := by
        intro k
        induction k using Nat.strongRecOn with
        | ind k ihk =>
          intro hk
          cases hb : listed.getD k false with
          | true => rfl
          | false =>
            exfalso
            have hk' : k < listed.size := by omega
            have hmem : k ∈ Region.ready .any ops listed := by
              rw [mem_ready]
              refine ⟨?_, ops[k], Array.getElem?_eq_getElem hk, fun e he _ => ?_⟩
              · rw [Array.getD_eq_getD_getElem?, Array.getElem?_eq_getElem hk'] at hb ⊢
                simpa using hb
              · have := afters_at ops.toList 0 k ops[k] ha (by simp [hk]) e he
                exact ihk e.on (by omega) (by omega)
            rw [hr] at hmem
            cases hmem
      exact ⟨this k hk, hV k (this k hk)⟩
    · obtain ⟨h0, o, ho, hall⟩ := mem_ready.1 hi
      have hi' : i < ops.size := (Array.getElem?_eq_some_iff.1 ho).1
      have hk' : i < listed.size := by omega
      have ho' : ops.toList[i]? = some o := by rw [Array.getElem?_toList]; exact ho
      have hL := localsS_at ops.toList 0 i o hl ho'
      rw [Nat.zero_add] at hL
      have hi0 : listed.getD i false = false := by
        rw [Array.getD_eq_getD_getElem?, Array.getElem?_eq_getElem hk'] at h0 ⊢
        simpa using h0
      have hdep : ∀ k, waitsFor ops i k = true → listed.getD k false = true := fun k hk => by
        obtain ⟨e, he, hb, rfl⟩ := waits_at ho hk
        exact hall e he hb
      have hset : (fun k => (listed.setIfInBounds i true).getD k false) = setL (fun k => listed.getD k false) i := by
        funext k
        unfold setL
        by_cases hki : k = i
        · subst hki
          rw [if_pos rfl, Array.getD_eq_getD_getElem?, Array.getElem?_setIfInBounds_self_of_lt hk']
          rfl
        · rw [if_neg hki, Array.getD_eq_getD_getElem?, Array.getElem?_setIfInBounds_ne (Ne.symm hki)]
          exact (Array.getD_eq_getD_getElem? ..).symm
      obtain ⟨hw, hv⟩ := hL u (fun k => listed.getD k false) hi0 hcl (fun k hk => ⟨hdep k hk, hV k (hdep k hk)⟩)
      have next : wpAny P .any ops Q fuel (listed.setIfInBounds i true) ((fillOps ops.toList u 0 a0).put o.dst (c i)) (wOf (setL (fun k => listed.getD k false) i)) := by
        rw [fill_upd u (c i) ops.toList 0 i a0 o hd ho', Nat.zero_add, ← hset]
        refine ih (listed.setIfInBounds i true) (upd u i (c i)) (by simpa using hsz) ?_ ?_ fun k hk => ?_
        · have hf : listed.toList[i]? = some false := by
            rw [Array.getD_eq_getD_getElem?, Array.getElem?_eq_getElem hk'] at h0
            rw [Array.getElem?_toList, Array.getElem?_eq_getElem hk']
            simpa using h0
          have := count_set listed.toList i hf
          rw [Array.toList_setIfInBounds, this]
          omega
        · intro j k hj hk
          have e1 := congrFun hset j
          have e2 := congrFun hset k
          rw [e2]
          rw [e1] at hj
          unfold setL at hj ⊢
          by_cases hki : k = i
          · rw [if_pos hki]
          · rw [if_neg hki]
            by_cases hji : j = i
            · subst hji; exact hdep k hk
            · rw [if_neg hji] at hj; exact hcl j k hj hk
        · by_cases hki : k = i
          · subst hki; exact upd_same _ _ _
          · rw [upd_ne hki]
            have e2 := congrFun hset k
            rw [e2] at hk
            unfold setL at hk
            rw [if_neg hki] at hk
            exact hV k hk
      unfold Go.wpOp
      simp only [ho, hw, if_true]
      left
      unfold Oper.wp
      rcases hv with hr | ⟨hu, hr⟩ | ⟨f, args, hr, hcall⟩
      · rw [hr]; exact next
      · rw [hr]; rw [hu] at next; exact next
      · rw [hr, Oper.upon_enter]
        refine hcall.mono fun e w'' he => ?_
        obtain ⟨rfl, rfl⟩ := he
        exact next

/-- The whole region. -/
theorem wp_region_states {Q : Exit → Act → World → Prop} {id : Nat} {w : World} (c : Nat → Value) (wOf : (Nat → Bool) → World) (hm : P.follows .mixedOrders = true)
    (hd : dstsOk (ops.toList.map (·.dst)) = true) (ha : aftersOk ops.toList 0 = true) (hw : wOf (fun _ => false) = w.drew) (hl : LocalsS P ops c wOf a0 ops.toList 0)
    (hE : ∀ u L, (∀ k, k < ops.size → L k = true ∧ u k = c k) → Q .normal (fillOps ops.toList u 0 a0) (wOf L)) : (Code.region id ops true).wp P Q a0 w := by
  have h0 : fillOps ops.toList (fun k => ((ops.toList[k]?).bind fun o => o.dst.bind fun d => a0.tmps[d]?).getD undef) 0 a0 = a0 := by
    refine fill_id _ ops.toList 0 a0 fun j o ho => ?_
    simp only [Nat.zero_add, ho, Option.bind_some]
    cases hq : o.dst with
    | none => rfl
    | some d =>
      simp only [Act.put, Option.bind_some]
      by_cases hlt : d < a0.tmps.size
      · rw [Array.getElem?_eq_getElem hlt]
        simp [Array.setIfInBounds, hlt]
      · simp [Array.setIfInBounds, hlt]
  have hr : ∀ k, (Array.replicate ops.size false).getD k false = false := fun k => by
    rw [Array.getD_eq_getD_getElem?, Array.getElem?_replicate]
    split <;> rfl
  refine wp_region_any hm ?_
  have hw2 : (wOf fun k => (Array.replicate ops.size false).getD k false) = w.drew := by rw [← hw]; congr 1; funext k; exact hr k
  have := wpAny_states (Q := Q) hd ha hl hE ops.size (Array.replicate ops.size false) (fun k => ((ops.toList[k]?).bind fun o => o.dst.bind fun d => a0.tmps[d]?).getD undef) (by simp) (by simp [List.count_replicate])
    (fun j k hj => by rw [hr] at hj; cases hj) (fun k hk => by rw [hr] at hk; cases hk)
  rw [h0, hw2] at this
  exact this
theorem setL_ne {L : Nat → Bool} {i k : Nat} (h : k ≠ i) : setL L i k = L k := if_neg h
theorem setL_eq {L : Nat → Bool} {i : Nat} : setL L i i = true := if_pos rfl
end
end Go

namespace Go
open Go.Proofs.YtejhiekikblbiaaGreatDoor

/-- The last operation waits for all the others, of itself or by one that it waits for. -/
def waitsO (o : Oper) (k : Nat) : Bool := o.after.any fun e => Region.binds .any e && e.on == k
def lastOk (ops : Array Oper) (o : Oper) (n : Nat) : Bool := (List.range n).all fun k => waitsO o k || (List.range n).any fun j => waitsO o j && waitsFor ops j k

section
variable {P : Program} {ops : Array Oper} {w0 : World} {V : Nat → Value → World → Prop} {a0 : Act}

theorem wpAny_allListed {Q : Exit → Act → World → Prop} {listed : Array Bool} {a : Act} {w : World} (hsz : listed.size = ops.size) (hall : ∀ k, k < ops.size → listed.getD k false = true) (hQ : Q .normal a w) (fuel : Nat) :
    wpAny P .any ops Q fuel listed a w := by
  have hr : Region.ready .any ops listed = [] := by
    rw [List.eq_nil_iff_forall_not_mem]
    intro j hj
    obtain ⟨h0, o, ho, _⟩ := mem_ready.1 hj
    have hj' : j < ops.size := (Array.getElem?_eq_some_iff.1 ho).1
    have := hall j hj'
    have hk' : j < listed.size := by omega
    rw [Array.getD_eq_getD_getElem?, Array.getElem?_eq_getElem hk'] at this h0
    simp at this h0
    rw [this] at h0; cases h0
  cases fuel with
  | zero => exact ⟨hr, hQ⟩
  | succ fuel => exact ⟨fun _ => hQ, fun i hi => by rw [hr] at hi; cases hi⟩

theorem wpAny_tail {Q : Exit → Act → World → Prop} {n : Nat} {o : Oper} (hn : ops.size = n + 1) (ho : ops[n]? = some o) (hlast : lastOk ops o n = true) (hdo : o.dst = none)
    (hd : dstsOk (ops.toList.map (·.dst)) = true) (ha : aftersOk ops.toList 0 = true)
    (hst : ∀ k v w w', Ext w0 w → Ext w w' → V k v w → V k v w') (hl : Locals P ops w0 V a0 (ops.toList.take n) 0)
    (hE : ∀ u w, Ext w0 w → (∀ k, k < n → V k (u k) w) → Region.wanted o (yielded ops (fillOps ops.toList u 0 a0).tmps) = true ∧ ∃ w', (execOp (fillOps ops.toList u 0 a0).eval o).run P w = .ok .skip w' ∧ Q .normal (fillOps ops.toList u 0 a0) w') :
    ∀ (fuel : Nat) (listed : Array Bool) (u : Nat → Value) (w : World), listed.size = ops.size → listed.toList.count true + fuel = ops.size → listed.getD n false = false → (∀ j k, listed.getD j false = true → waitsFor ops j k = true → listed.getD k false = true) → Ext w0 w →
      (∀ k, listed.getD k false = true → V k (u k) w) → wpAny P .any ops Q fuel listed (fillOps ops.toList u 0 a0) w := by
  intro fuel
  induction fuel with
  | zero =>
    intro listed u w hsz hc h0 hcl hw hV
    exfalso
    have h1 : ∀ b ∈ listed.toList, true = b := List.count_eq_length.1 (by simpa [hsz] using hc)
    have hk' : n < listed.size := by omega
    rw [Array.getD_eq_getD_getElem?, Array.getElem?_eq_getElem hk'] at h0
    have := h1 listed[n] (by simp)
    simp at h0
    rw [h0] at this; cases this
  | succ fuel ih =>
    intro listed u w hsz hc hn0 hcl hw hV
    refine ⟨fun hr => ?_, fun i hi => ?_⟩
    · exfalso
      have : ∀ k, k < ops.size → listed.getD k false = true := by
        intro k
        induction k using Nat.strongRecOn with
        | ind k ihk =>
          intro hk
          cases hb : listed.getD k false with
          | true => rfl
          | false =>
            exfalso
            have hk' : k < listed.size := by omega
            have hmem : k ∈ Region.ready .any ops listed := by
              rw [mem_ready]
              refine ⟨?_, ops[k], Array.getElem?_eq_getElem hk, fun e he _ => ?_⟩
              · rw [Array.getD_eq_getD_getElem?, Array.getElem?_eq_getElem hk'] at hb ⊢
                simpa using hb
              · have := afters_at ops.toList 0 k ops[k] ha (by simp [hk]) e he
                exact ihk e.on (by omega) (by omega)
            rw [hr] at hmem
            cases hmem
      rw [this n (by omega)] at hn0
      cases hn0
    · obtain ⟨h0, o', ho', hall⟩ := mem_ready.1 hi
      have hi' : i < ops.size := (Array.getElem?_eq_some_iff.1 ho').1
      have hk' : i < listed.size := by omega
      by_cases hin : i = n
      · subst hin
        obtain rfl : o' = o := Option.some.inj (ho'.symm.trans ho)
        have hdir : ∀ k, waitsO o' k = true → listed.getD k false = true := fun k hk => by
          unfold waitsO at hk
          rw [Array.any_eq_true] at hk
          obtain ⟨q, hq, he⟩ := hk
          rw [Bool.and_eq_true] at he
          have h2 := hall _ (Array.getElem_mem hq) he.1
          rw [beq_iff_eq.1 he.2] at h2
          exact h2
        have hother : ∀ k, k < i → listed.getD k false = true := fun k hk => by
          unfold lastOk at hlast
          rw [List.all_eq_true] at hlast
          have := hlast k (by simpa using hk)
          rw [Bool.or_eq_true] at this
          rcases this with h1 | h1
          · exact hdir k h1
          · rw [List.any_eq_true] at h1
            obtain ⟨j, _, hj⟩ := h1
            rw [Bool.and_eq_true] at hj
            exact hcl j k (hdir j hj.1) hj.2
        obtain ⟨hwant, w', hrun, hQ⟩ := hE u w hw fun k hk => hV k (hother k hk)
        unfold Go.wpOp
        simp only [ho', hwant, if_true]
        left
        unfold Oper.wp
        rw [hrun]
        show wpAny P .any ops Q fuel _ _ w'
        rw [hdo]
        refine wpAny_allListed (by simpa using hsz) (fun k hk => ?_) hQ fuel
        by_cases hki : k = i
        · subst hki
          rw [Array.getD_eq_getD_getElem?, Array.getElem?_setIfInBounds_self_of_lt hk']
          rfl
        · rw [Array.getD_eq_getD_getElem?, Array.getElem?_setIfInBounds_ne (Ne.symm hki), ← Array.getD_eq_getD_getElem?]
          exact hother k (by omega)
      · have ho2 : ops.toList[i]? = some o' := by rw [Array.getElem?_toList]; exact ho'
        have ho3 : (ops.toList.take n)[i]? = some o' := by rw [List.getElem?_take, if_pos (by omega)]; exact ho2
        have hL := locals_at (ops.toList.take n) 0 i o' hl ho3
        rw [Nat.zero_add] at hL
        have hs := hL u w hw (fun k hk => by
          rw [Array.any_eq_true] at hk
          obtain ⟨q, hq, he⟩ := hk
          rw [Bool.and_eq_true] at he
          have := hall _ (Array.getElem_mem hq) he.1
          rw [beq_iff_eq.1 he.2] at this
          exact hV k this)
        refine hs.wpOp ho' fun v w' hE' hv => ?_
        rw [fill_upd u v ops.toList 0 i a0 o' hd ho2, Nat.zero_add]
        have hset : ∀ k, (listed.setIfInBounds i true).getD k false = if k = i then true else listed.getD k false := fun k => by
          by_cases hki : k = i
          · subst hki
            rw [if_pos rfl, Array.getD_eq_getD_getElem?, Array.getElem?_setIfInBounds_self_of_lt hk']
            rfl
          · rw [if_neg hki, Array.getD_eq_getD_getElem?, Array.getElem?_setIfInBounds_ne (Ne.symm hki)]
            exact (Array.getD_eq_getD_getElem? ..).symm
        have hdep : ∀ k, waitsFor ops i k = true → listed.getD k false = true := fun k hk => by
          obtain ⟨e, he, hb, rfl⟩ := waits_at ho' hk
          exact hall e he hb
        refine ih (listed.setIfInBounds i true) (upd u i v) w' (by simpa using hsz) ?_ ?_ ?_ (hw.tr hE') fun k hk => ?_
        · have hf : listed.toList[i]? = some false := by
            rw [Array.getD_eq_getD_getElem?, Array.getElem?_eq_getElem hk'] at h0
            rw [Array.getElem?_toList, Array.getElem?_eq_getElem hk']
            simpa using h0
          have := count_set listed.toList i hf
          rw [Array.toList_setIfInBounds, this]
          omega
        · rw [Array.getD_eq_getD_getElem?, Array.getElem?_setIfInBounds_ne hin, ← Array.getD_eq_getD_getElem?]
          exact hn0
        · intro j k hj hk
          rw [hset] at hj ⊢
          by_cases hki : k = i
          · rw [if_pos hki]
          · rw [if_neg hki]
            by_cases hji : j = i
            · subst hji; exact hdep k hk
            · rw [if_neg hji] at hj; exact hcl j k hj hk
        · by_cases hki : k = i
          · subst hki; rw [upd_same]; exact hv
          · rw [upd_ne hki]
            refine hst k _ w w' hw hE' (hV k ?_)
            rw [Array.getD_eq_getD_getElem?, Array.getElem?_setIfInBounds_ne (Ne.symm hki)] at hk
            rw [Array.getD_eq_getD_getElem?]
            exact hk

/-- The whole region. -/
theorem wp_region_tail {Q : Exit → Act → World → Prop} {id : Nat} {w : World} (V : Nat → Value → World → Prop) {n : Nat} {o : Oper} (hm : P.follows .mixedOrders = true) (hn : ops.size = n + 1) (ho : ops[n]? = some o) (hlast : lastOk ops o n = true) (hdo : o.dst = none)
    (hd : dstsOk (ops.toList.map (·.dst)) = true) (ha : aftersOk ops.toList 0 = true)
    (hst : ∀ k v w1 w2, Ext w w1 → Ext w1 w2 → V k v w1 → V k v w2) (hl : Locals P ops w V a0 (ops.toList.take n) 0)
    (hE : ∀ u w', Ext w w' → (∀ k, k < n → V k (u k) w') → Region.wanted o (yielded ops (fillOps ops.toList u 0 a0).tmps) = true ∧ ∃ w2, (execOp (fillOps ops.toList u 0 a0).eval o).run P w' = .ok .skip w2 ∧ Q .normal (fillOps ops.toList u 0 a0) w2) : (Code.region id ops true).wp P Q a0 w := by
  have h0 : fillOps ops.toList (fun k => ((ops.toList[k]?).bind fun o => o.dst.bind fun d => a0.tmps[d]?).getD undef) 0 a0 = a0 := by
    refine fill_id _ ops.toList 0 a0 fun j o ho => ?_
    simp only [Nat.zero_add, ho, Option.bind_some]
    cases hq : o.dst with
    | none => rfl
    | some d =>
      simp only [Act.put, Option.bind_some]
      by_cases hlt : d < a0.tmps.size
      · rw [Array.getElem?_eq_getElem hlt]
        simp [Array.setIfInBounds, hlt]
      · simp [Array.setIfInBounds, hlt]
  have hr : ∀ k, (Array.replicate ops.size false).getD k false = false := fun k => by
    rw [Array.getD_eq_getD_getElem?, Array.getElem?_replicate]
    split <;> rfl
  refine wp_region_any hm ?_
  rw [← h0]
  refine wpAny_tail (w0 := w) hn ho hlast hdo hd ha hst hl hE ops.size _ _ _ (by simp) (by simp [List.count_replicate]) (hr n) (fun j k hj => by rw [hr] at hj; cases hj) (Ext.rfl' w).dr fun k hk => ?_
  rw [hr] at hk
  cases hk
end
end Go

namespace Go.Proofs.YtejhiekikblbiaaGreatDoor
open Go.RowKit

theorem over_fold (v : St) (s : List UInt8) (w : World) (hT : Tab w) (hs : s.length ≤ 1000000) : Calls Tryz.prog 136 #[stV v, .string (ofL s)] w fun e w' => e = .returned (stV (foldS v s)) ∧ Ext w w' := over_any v s w hT hs

theorem shaPad_le (s : List UInt8) : (shaPad s).length ≤ s.length + 72 := by unfold shaPad; rw [List.length_append, length_endingL]; omega

set_option maxHeartbeats 1000000 in
theorem sum_any (s : List UInt8) (w : World) (hT : Tab w) (hs : s.length ≤ 900000) : Calls Tryz.prog 112 #[.string (ofL s)] w fun e w' => e = .returned (.string (ofL (sumL s))) ∧ Ext w w' := by
  obtain ⟨P, hP⟩ : ∃ P, shaPad s = P := ⟨_, rfl⟩
  have hl : P.length ≤ 1000000 := by rw [← hP]; have := shaPad_le s; omega
  have hp : ∀ w, Calls Tryz.prog 138 #[.string (ofL s)] w fun e w' => e = .returned (.string (ofL P)) ∧ Ext w w' := fun w => by rw [← hP]; exact pad_sha s w (by omega)
  obtain ⟨u, hu⟩ : ∃ u, foldS initS P = u := ⟨_, rfl⟩
  have ho : ∀ w, Tab w → Calls Tryz.prog 136 #[stV initS, .string (ofL P)] w fun e w' => e = .returned (stV u) ∧ Ext w w' := fun w hw => by rw [← hu]; exact over_fold initS P w hw hl
  have hr : sumL s = tellS u := by rw [sumL_fold, hP, hu]
  rw [hr]
  have HP := Lib.hid hp; have HO := Lib.hid ho
  clear hp ho hr hu hP hl
  go_enter Tryz.func112, Tryz.ntmps112
  go_wp2_with fail
  refine (first_any _).mono ?_
  rintro e w1 ⟨rfl, hE1⟩
  go_wp2_with fail
  refine (HP.out _).mono ?_
  rintro e w2 ⟨rfl, hE2⟩
  have E2 := hE1.tr hE2
  go_wp2_with fail
  refine (HO.out _ (hT.ext E2)).mono ?_
  rintro e w3 ⟨rfl, hE3⟩
  go_wp2_with fail
  refine (tell_any u _).mono ?_
  rintro e w4 ⟨rfl, hE4⟩
  go_wp2
  go_ret
  exact ⟨rfl, (E2.tr hE3).tr hE4⟩

/-- A hash lies in a block of its own. -/
def hashL (t : List UInt8) : List Value := .bool true :: (stL (stOf t) ++ [Str (tlOf t), .int .i64 t.length])
def HashAt (w : World) (p : Nat) (t : List UInt8) : Prop := Arr w p 187 (hashL t)

set_option maxHeartbeats 1000000 in
theorem new_any (w : World) : Calls Tryz.prog 113 #[] w fun e w' => ∃ p, e = .returned (.pointer (some ⟨p, 0, none⟩)) ∧ w.heap.size ≤ p ∧ HashAt w' p [] ∧ Ext w w' := by
  go_enter Tryz.func113, Tryz.ntmps113
  go_wp2_with ((with_reducible refine (first_any _).mono ?_); rintro e w2 ⟨rfl, hE2⟩)
  exact bodyPost_ret (v := .pointer (some ⟨w2.heap.size, 0, none⟩)) (by simp [results, Tryz.results113, go_sem]) rfl ⟨_, rfl, hE2.size, Arr.new _ _ _, hE2.al _⟩

theorem HashAt.cells {w : World} {p : Nat} {t : List UInt8} (h : HashAt w p t) : w.cell? ⟨p, 0, none⟩ = some (.bool true) ∧ w.cell? ⟨p, 1, none⟩ = some (W32 (stOf t).a) ∧ w.cell? ⟨p, 2, none⟩ = some (W32 (stOf t).b) ∧ w.cell? ⟨p, 3, none⟩ = some (W32 (stOf t).c) ∧ w.cell? ⟨p, 4, none⟩ = some (W32 (stOf t).d) ∧
    w.cell? ⟨p, 5, none⟩ = some (W32 (stOf t).e) ∧ w.cell? ⟨p, 6, none⟩ = some (W32 (stOf t).f) ∧ w.cell? ⟨p, 7, none⟩ = some (W32 (stOf t).g) ∧ w.cell? ⟨p, 8, none⟩ = some (W32 (stOf t).h) ∧ w.cell? ⟨p, 9, none⟩ = some (Str (tlOf t)) ∧ w.cell? ⟨p, 10, none⟩ = some (.int .i64 t.length) :=
  ⟨h.cell 0, h.cell 1, h.cell 2, h.cell 3, h.cell 4, h.cell 5, h.cell 6, h.cell 7, h.cell 8, h.cell 9, h.cell 10⟩
theorem grown_set {w w' : World} {p j : Nat} (h : w.grownBy w' (some p)) (u : Value) : w.grownBy (w'.setCell ⟨p, j, none⟩ u) (some p) :=
  ⟨h.os, h.tape, h.output, by have := h.size; simpa using this, fun k hk hn => (heap_setCell_other w' ⟨p, j, none⟩ k u (fun e => hn (by simp [e]))).trans (h.block k hk hn)⟩
theorem grown_ext {w w' w2 : World} {p : Nat} (h : w.grownBy w' (some p)) (hE : Ext w' w2) : w.grownBy w2 (some p) :=
  ⟨hE.os.trans h.os, hE.tape.trans h.tape, hE.output.trans h.output, Nat.le_trans h.size hE.size, fun k hk hn => (hE.block k (Nat.lt_of_lt_of_le hk h.size)).trans (h.block k hk hn)⟩
theorem clone_any (s : ByteArray) (w : World) (hs : s.size ≤ 1000000) : Calls Tryz.prog 139 #[.string s] w fun e w' => e = .returned (.string s) ∧ Ext w w' := by
  go_enter Tryz.func139, Tryz.ntmps139
  go_wp2_with ((with_reducible refine (Tryz.stringslite_Clone s _ (by omega)).mono ?_); rintro e w' ⟨rfl, hE⟩)
  go_ret
  exact ⟨rfl, hE⟩
def AddPost (w : World) (p : Nat) (t : List UInt8) (e : Ending) (w' : World) : Prop := e = .returned (.tuple #[]) ∧ HashAt w' p t ∧ w.grownBy w' (some p)

set_option maxRecDepth 100000 in
set_option maxHeartbeats 4000000 in
theorem add_any (p : Nat) (t s : List UInt8) (w : World) (hT : Tab w) (hp : 1 < p) (h : HashAt w p t) (hl : t.length + s.length ≤ 900000) : Calls Tryz.prog 114 #[.pointer (some ⟨p, 0, none⟩), .string (ofL s)] w (AddPost w p (t ++ s)) := by
  obtain ⟨A, hA⟩ : ∃ A, tlOf t ++ s = A := ⟨_, rfl⟩
  have hAl : A.length ≤ 900000 := by rw [← hA, List.length_append, length_tlOf]; omega
  have happ : ofL (tlOf t) ++ ofL s = ofL A := by rw [ofL_append, hA]
  obtain ⟨q, hq⟩ : ∃ q, A.length / 64 * 64 = q := ⟨_, rfl⟩
  have hq' : (A.length : Int) / 64 * 64 = q := by omega
  have hqle : q ≤ A.length := by omega
  have ex1 : (ofL A).extract 0 q = ofL (A.take q) := by rw [extract_to, toL_ofL]
  have ex2 : (ofL A).extract q A.length = ofL (A.drop q) := by
    have := extract_from (ofL A) q
    rw [size_ofL, toL_ofL] at this
    exact this
  obtain ⟨u, hu⟩ : ∃ u, foldS (stOf t) (A.take q) = u := ⟨_, rfl⟩
  have ho : ∀ w, Tab w → Calls Tryz.prog 136 #[stV (stOf t), .string (ofL (A.take q))] w fun e w' => e = .returned (stV u) ∧ Ext w w' := fun w hw => by
    rw [← hu]; exact over_fold _ _ w hw (by rw [List.length_take]; omega)
  have hend : hashL (t ++ s) = .bool true :: (stL u ++ [Str (A.drop q), .int .i64 ((t.length : Int) + s.length)]) := by
    unfold hashL
    rw [← stOf_add, ← tlOf_add, hA, hq, hu]
    simp
  have hszs := size_ofL s
  have hszt : (tlOf t).length ≤ 63 := by rw [length_tlOf]; omega
  obtain ⟨d0, d1, d2, d3, d4, d5, d6, d7, d8, d9, d10⟩ := h.cells
  have df := h.frozen 10
  have hpw := h.lt
  unfold Str at d9
  obtain ⟨T, hTl⟩ : ∃ T, tlOf t = T := ⟨_, rfl⟩
  rw [hTl] at d9 happ hszt
  have HA := Lib.hid h
  have HO := Lib.hid ho; have HEND := Lib.hid hend; have HU := Lib.hid hu; have HQ := Lib.hid hq; have HAA := Lib.hid hA; have HTT := Lib.hid hTl
  clear h ho hend hu hq hA hTl
  go_enter Tryz.func114, Tryz.ntmps114
  go_upto_region 4 with fail
  have B0 : Arr (w.setCell ⟨p, 10, none⟩ (.int .i64 ((t.length : Int) + s.length))) p 187 (.bool true :: (stL (stOf t) ++ [.string (ofL T), .int .i64 ((t.length : Int) + s.length)])) := by
    have h := Arr.set HA.out 10 (.int .i64 ((t.length : Int) + s.length))
    unfold hashL Str at h
    rw [HTT.out] at h
    simpa using h
  have G0 : w.grownBy (w.setCell ⟨p, 10, none⟩ (.int .i64 ((t.length : Int) + s.length))) (some p) :=
    ⟨rfl, rfl, rfl, by simp, fun k _ hk => heap_setCell_other w ⟨p, 10, none⟩ k _ (fun e => hk (by simp [e]))⟩
  have T0 : Tab (w.setCell ⟨p, 10, none⟩ (.int .i64 ((t.length : Int) + s.length))) := ⟨by simpa using hT.1, fun i hi => by
    have e : (w.setCell ⟨p, 10, none⟩ (.int .i64 ((t.length : Int) + s.length))).heap[1]? = w.heap[1]? := heap_setCell_other w ⟨p, 10, none⟩ 1 _ (show 1 ≠ p by omega)
    exact (World.cell?_of_block (a := ⟨1, i, none⟩) e).trans (hT.2 i hi)⟩
  clear d0 d1 d2 d3 d4 d5 d6 d7 d8 d9 d10 df
  generalize w.setCell ⟨p, 10, none⟩ (.int .i64 ((t.length : Int) + s.length)) = W0 at *
  obtain ⟨ua, ub, uc, ud, ue, uf, ug, uh⟩ := u
  obtain ⟨sv, hsv⟩ : ∃ sv, stOf t = sv := ⟨_, rfl⟩
  rw [hsv] at B0
  have HO' : Hid (∀ w, Tab w → Calls Tryz.prog 136 #[stV sv, .string (ofL (A.take q))] w fun e w' => e = .returned (stV ⟨ua, ub, uc, ud, ue, uf, ug, uh⟩) ∧ Ext w w') := by rw [← hsv]; exact HO
  clear HO
  refine wp_region_tail (n := 11) (fun i v W => match i with
    | 0 => v = .pointer (some ⟨p, 0, none⟩)
    | 1 => v = .pointer (some ⟨p, 0, none⟩)
    | 2 => v = .pointer (some ⟨p, 0, none⟩)
    | 3 => v = .pointer (some ⟨p, 1, none⟩)
    | 4 => v = stV sv
    | 5 => v = .string (ofL A)
    | 6 => v = .int .i64 q
    | 7 => v = .string (ofL (A.take q))
    | 8 => v = stV ⟨ua, ub, uc, ud, ue, uf, ug, uh⟩
    | 9 => v = .pointer (some ⟨p, 0, none⟩)
    | 10 => v = .pointer (some ⟨p, 1, none⟩)
    | _ => True) (by kernel_rfl) rfl rfl (by kernel_rfl) rfl (by kernel_rfl) (by kernel_rfl) ?_ ?_ ?_
  · intro i v W1 W2 e1 e2 h
    match i, h with
    | 0, h => exact h
    | 1, h => exact h
    | 2, h => exact h
    | 3, h => exact h
    | 4, h => exact h
    | 5, h => exact h
    | 6, h => exact h
    | 7, h => exact h
    | 8, h => exact h
    | 9, h => exact h
    | 10, h => exact h
    | (i + 11), h => exact h
  · refine locals_cons (fun u W hE hd => leaves_val rfl (v := .pointer (some ⟨p, 0, none⟩)) (by go_simp) rfl) ?_
    refine locals_cons (fun u W hE hd => leaves_val rfl (v := .pointer (some ⟨p, 0, none⟩)) (by go_simp) rfl) ?_
    refine locals_cons (fun u W hE hd => ?_) ?_
    · have h1 : u 1 = _ := hd 1 (by kernel_rfl)
      exact leaves_val rfl (v := .pointer (some ⟨p, 0, none⟩)) (by go_simp) rfl
    refine locals_cons (fun u W hE hd => ?_) ?_
    · have h1 : u 2 = _ := hd 2 (by kernel_rfl)
      exact leaves_val rfl (v := .pointer (some ⟨p, 1, none⟩)) (by go_simp) rfl
    refine locals_cons (fun u W hE hd => ?_) ?_
    · have h1 : u 3 = _ := hd 3 (by kernel_rfl)
      have B := B0.ext hE B0.lt
      have c1 := B.cell 1; have c2 := B.cell 2; have c3 := B.cell 3; have c4 := B.cell 4; have c5 := B.cell 5; have c6 := B.cell 6; have c7 := B.cell 7; have c8 := B.cell 8
      simp only [List.getElem?_cons_zero, List.getElem?_cons_succ, List.cons_append] at c1 c2 c3 c4 c5 c6 c7 c8
      exact leaves_val rfl (v := stV sv) (by go_simp) rfl
    refine locals_cons (fun u W hE hd => leaves_val rfl (v := .string (ofL A)) (by go_simp) rfl) ?_
    refine locals_cons (fun u W hE hd => leaves_val rfl (v := .int .i64 q) (by go_simp) rfl) ?_
    refine locals_cons (fun u W hE hd => ?_) ?_
    · have h1 : u 5 = _ := hd 5 (by kernel_rfl)
      have h2 : u 6 = _ := hd 6 (by kernel_rfl)
      exact leaves_val rfl (v := .string (ofL (A.take q))) (by go_simp) rfl
    refine locals_cons (fun u W hE hd => ?_) ?_
    · have h1 : u 4 = _ := hd 4 (by kernel_rfl)
      have h2 : u 7 = _ := hd 7 (by kernel_rfl)
      exact leaves_call rfl (f := 136) (args := #[stV sv, .string (ofL (A.take q))]) (by go_simp) ((HO'.out W (T0.ext hE)).mono (by rintro e9 W9 ⟨rfl, h9⟩; exact ⟨_, rfl, h9, rfl⟩))
    refine locals_cons (fun u W hE hd => ?_) ?_
    · have h1 : u 0 = _ := hd 0 (by kernel_rfl)
      exact leaves_val rfl (v := .pointer (some ⟨p, 0, none⟩)) (by go_simp) rfl
    refine locals_cons (fun u W hE hd => ?_) locals_nil
    · have h1 : u 9 = _ := hd 9 (by kernel_rfl)
      exact leaves_val rfl (v := .pointer (some ⟨p, 1, none⟩)) (by go_simp) rfl
  · intro x W1 hE1 hV
    have h8 : x 8 = stV ⟨ua, ub, uc, ud, ue, uf, ug, uh⟩ := hV 8 (by decide)
    have h10 : x 10 = .pointer (some ⟨p, 1, none⟩) := hV 10 (by decide)
    clear hV
    have B1 := B0.ext hE1 B0.lt
    have c1 := B1.cell 1; have c2 := B1.cell 2; have c3 := B1.cell 3; have c4 := B1.cell 4; have c5 := B1.cell 5; have c6 := B1.cell 6; have c7 := B1.cell 7; have c8 := B1.cell 8
    simp only [List.getElem?_cons_zero, List.getElem?_cons_succ, List.cons_append] at c1 c2 c3 c4 c5 c6 c7 c8
    have f1 := B1.frozen 1; have f2 := B1.frozen 2; have f3 := B1.frozen 3; have f4 := B1.frozen 4; have f5 := B1.frozen 5; have f6 := B1.frozen 6; have f7 := B1.frozen 7; have f8 := B1.frozen 8
    refine ⟨rfl, _, by go_simp; rfl, ?_⟩
    clear c1 c2 c3 c4 c5 c6 c7 c8 f1 f2 f3 f4 f5 f6 f7 f8
    have B2 := ((((((((B1.set 1 (W32 ua)).set 2 (W32 ub)).set 3 (W32 uc)).set 4 (W32 ud)).set 5 (W32 ue)).set 6 (W32 uf)).set 7 (W32 ug)).set 8 (W32 uh))
    simp only [List.set_cons_zero, List.set_cons_succ, List.cons_append, List.nil_append] at B2
    have g1 := grown_ext G0 hE1
    have G2 := (grown_set (grown_set (grown_set (grown_set (grown_set (grown_set (grown_set (grown_set g1 (j := 1) (W32 ua)) (j := 2) (W32 ub)) (j := 3) (W32 uc)) (j := 4) (W32 ud)) (j := 5) (W32 ue)) (j := 6) (W32 uf)) (j := 7) (W32 ug)) (j := 8) (W32 uh))
    clear B1 B0 G0 g1 hE1 T0 h8 h10 HO'
    generalize World.setCell _ ⟨p, 8, none⟩ (W32 uh) = W2 at *
    clear W1
    have hp2 := B2.lt
    go_wp2_with ((with_reducible refine (clone_any _ _ (by rw [size_ofL, List.length_drop]; omega)).mono ?_); rintro e W3 ⟨rfl, hE3⟩; have B3 := B2.ext hE3 hp2; have c9 := B3.cell 9; simp only [List.getElem?_cons_zero, List.getElem?_cons_succ] at c9; have f9 := B3.frozen 9)
    refine bodyPost_end (v := .tuple #[]) (by simp [results, Tryz.results114, go_sem]) rfl ⟨rfl, ?_, grown_set (grown_ext G2 hE3) _⟩
    have B4 := B3.set 9 (.string (ofL (A.drop q)))
    unfold HashAt
    rw [HEND.out]
    exact B4

/-! ### a hash that was not made, and none -/
theorem add_nil (s : ByteArray) (w : World) : Calls Tryz.prog 114 #[.pointer none, .string s] w fun e w' => e = .returned (.tuple #[]) ∧ w' = w := by
  go_enter Tryz.func114, Tryz.ntmps114
  go_wp2
  exact bodyPost_ret (v := .tuple #[]) (by simp [results, Tryz.results114, go_sem]) rfl ⟨rfl, rfl⟩
theorem add_zero (p : Nat) (s : ByteArray) (w : World) (hc : w.cell? ⟨p, 0, none⟩ = some (.bool false)) : Calls Tryz.prog 114 #[.pointer (some ⟨p, 0, none⟩), .string s] w fun e w' => e = .returned (.tuple #[]) ∧ w' = w := by
  go_enter Tryz.func114, Tryz.ntmps114
  go_wp2
  exact bodyPost_ret (v := .tuple #[]) (by simp [results, Tryz.results114, go_sem]) rfl ⟨rfl, rfl⟩
theorem hsum_nil (w : World) (hT : Tab w) : Calls Tryz.prog 116 #[.pointer none] w fun e w' => e = .returned (.string (ofL (sumL []))) ∧ Ext w w' := by
  obtain ⟨r, hr⟩ : ∃ r, sumL [] = r := ⟨_, rfl⟩
  have h : ∀ w, Tab w → Calls Tryz.prog 112 #[.string ⟨#[]⟩] w fun e w' => e = .returned (.string (ofL r)) ∧ Ext w w' := fun w hw => by rw [← hr]; exact sum_any [] w hw (by simp)
  rw [hr]
  have H := Lib.hid h
  clear h hr
  go_enter Tryz.func116, Tryz.ntmps116
  go_wp2_with ((with_reducible refine (H.out _ hT).mono ?_); rintro e w' ⟨rfl, hE⟩)
  go_ret
  exact ⟨rfl, hE⟩
theorem hsum_zero (p : Nat) (w : World) (hT : Tab w) (hc : w.cell? ⟨p, 0, none⟩ = some (.bool false)) : Calls Tryz.prog 116 #[.pointer (some ⟨p, 0, none⟩)] w fun e w' => e = .returned (.string (ofL (sumL []))) ∧ Ext w w' := by
  obtain ⟨r, hr⟩ : ∃ r, sumL [] = r := ⟨_, rfl⟩
  have h : ∀ w, Tab w → Calls Tryz.prog 112 #[.string ⟨#[]⟩] w fun e w' => e = .returned (.string (ofL r)) ∧ Ext w w' := fun w hw => by rw [← hr]; exact sum_any [] w hw (by simp)
  rw [hr]
  have H := Lib.hid h
  clear h hr
  go_enter Tryz.func116, Tryz.ntmps116
  go_wp2_with ((with_reducible refine (H.out _ hT).mono ?_); rintro e w' ⟨rfl, hE⟩)
  go_ret
  exact ⟨rfl, hE⟩
end Go.Proofs.YtejhiekikblbiaaGreatDoor

namespace Go.Proofs.YtejhiekikblbiaaGreatDoor
open Go.RowKit

set_option maxRecDepth 100000 in
set_option maxHeartbeats 4000000 in
theorem hsum_any (p : Nat) (t : List UInt8) (w : World) (hT : Tab w) (h : HashAt w p t) (hl : t.length ≤ 900000) : Calls Tryz.prog 116 #[.pointer (some ⟨p, 0, none⟩)] w fun e w' => e = .returned (.string (ofL (sumL t))) ∧ Ext w w' := by
  obtain ⟨E, hE⟩ : ∃ E, endingL t.length = E := ⟨_, rfl⟩
  obtain ⟨T, hTl⟩ : ∃ T, tlOf t = T := ⟨_, rfl⟩
  obtain ⟨sv, hsv⟩ : ∃ sv, stOf t = sv := ⟨_, rfl⟩
  obtain ⟨u, hu⟩ : ∃ u, foldS sv (T ++ E) = u := ⟨_, rfl⟩
  have hTn : T.length ≤ 63 := by rw [← hTl, length_tlOf]; omega
  have hEn : E.length ≤ 72 := by rw [← hE, length_endingL]; omega
  have hsum : sumL t = tellS u := by rw [← sum_parts, hE, hTl, hsv, hu]
  have he : ∀ w, Calls Tryz.prog 142 #[.int .i64 t.length] w fun e w' => e = .returned (.string (ofL E)) ∧ Ext w w' := fun w => by rw [← hE]; exact ending_any _ w (by omega)
  have ho : ∀ w, Tab w → Calls Tryz.prog 136 #[stV sv, .string (ofL (T ++ E))] w fun e w' => e = .returned (stV u) ∧ Ext w w' := fun w hw => by
    rw [← hu]; exact over_fold _ _ w hw (by rw [List.length_append]; omega)
  have B0 : Arr w p 187 (.bool true :: (stL sv ++ [.string (ofL T), .int .i64 t.length])) := by
    have := h
    unfold HashAt hashL Str at this
    rw [hsv, hTl] at this
    exact this
  have hap : ofL T ++ ofL E = ofL (T ++ E) := ofL_append _ _
  have hpw := h.lt
  have c0 := B0.cell 0
  simp only [List.getElem?_cons_zero] at c0
  rw [hsum]
  have HE := Lib.hid he; have HO := Lib.hid ho; have HAP := Lib.hid hap
  clear he ho hsum hu hsv hTl hE hap h
  go_enter Tryz.func116, Tryz.ntmps116
  go_upto_region 3 with fail
  clear c0
  refine wp_region_locals (fun i v W => match i with
    | 0 => v = .pointer (some ⟨p, 0, none⟩)
    | 1 => v = .pointer (some ⟨p, 0, none⟩)
    | 2 => v = .pointer (some ⟨p, 1, none⟩)
    | 3 => v = stV sv
    | 4 => v = .pointer (some ⟨p, 0, none⟩)
    | 5 => v = .pointer (some ⟨p, 0, none⟩)
    | 6 => v = .pointer (some ⟨p, 9, none⟩)
    | 7 => v = .string (ofL T)
    | 8 => v = .pointer (some ⟨p, 0, none⟩)
    | 9 => v = .pointer (some ⟨p, 0, none⟩)
    | 10 => v = .pointer (some ⟨p, 10, none⟩)
    | 11 => v = .int .i64 t.length
    | 12 => v = .string (ofL E)
    | 13 => v = .string (ofL (T ++ E))
    | 14 => v = stV u
    | 15 => v = .string (ofL (tellS u))
    | 16 => v = .string (ofL (tellS u))
    | _ => True) (by kernel_rfl) (by kernel_rfl) (by kernel_rfl) ?_ ?_ ?_
  · intro i v W1 W2 e1 e2 h
    match i, h with
    | 0, h => exact h
    | 1, h => exact h
    | 2, h => exact h
    | 3, h => exact h
    | 4, h => exact h
    | 5, h => exact h
    | 6, h => exact h
    | 7, h => exact h
    | 8, h => exact h
    | 9, h => exact h
    | 10, h => exact h
    | 11, h => exact h
    | 12, h => exact h
    | 13, h => exact h
    | 14, h => exact h
    | 15, h => exact h
    | 16, h => exact h
    | (i + 17), h => exact h
  · refine locals_cons (fun x W hE hd => leaves_val rfl (v := .pointer (some ⟨p, 0, none⟩)) (by go_simp) rfl) ?_
    refine locals_cons (fun x W hE hd => ?_) ?_
    · have h1 : x 0 = _ := hd 0 (by kernel_rfl)
      exact leaves_val rfl (v := .pointer (some ⟨p, 0, none⟩)) (by go_simp) rfl
    refine locals_cons (fun x W hE hd => ?_) ?_
    · have h1 : x 1 = _ := hd 1 (by kernel_rfl)
      exact leaves_val rfl (v := .pointer (some ⟨p, 1, none⟩)) (by go_simp) rfl
    refine locals_cons (fun x W hE hd => ?_) ?_
    · have h1 : x 2 = _ := hd 2 (by kernel_rfl)
      have B := B0.ext hE B0.lt
      have c1 := B.cell 1; have c2 := B.cell 2; have c3 := B.cell 3; have c4 := B.cell 4; have c5 := B.cell 5; have c6 := B.cell 6; have c7 := B.cell 7; have c8 := B.cell 8
      simp only [List.getElem?_cons_zero, List.getElem?_cons_succ, List.cons_append] at c1 c2 c3 c4 c5 c6 c7 c8
      exact leaves_val rfl (v := stV sv) (by go_simp) rfl
    refine locals_cons (fun x W hE hd => leaves_val rfl (v := .pointer (some ⟨p, 0, none⟩)) (by go_simp) rfl) ?_
    refine locals_cons (fun x W hE hd => ?_) ?_
    · have h1 : x 4 = _ := hd 4 (by kernel_rfl)
      exact leaves_val rfl (v := .pointer (some ⟨p, 0, none⟩)) (by go_simp) rfl
    refine locals_cons (fun x W hE hd => ?_) ?_
    · have h1 : x 5 = _ := hd 5 (by kernel_rfl)
      exact leaves_val rfl (v := .pointer (some ⟨p, 9, none⟩)) (by go_simp) rfl
    refine locals_cons (fun x W hE hd => ?_) ?_
    · have h1 : x 6 = _ := hd 6 (by kernel_rfl)
      have c9 := (B0.ext hE B0.lt).cell 9
      simp only [List.getElem?_cons_zero, List.getElem?_cons_succ, List.cons_append, List.nil_append] at c9
      exact leaves_val rfl (v := .string (ofL T)) (by go_simp) rfl
    refine locals_cons (fun x W hE hd => leaves_val rfl (v := .pointer (some ⟨p, 0, none⟩)) (by go_simp) rfl) ?_
    refine locals_cons (fun x W hE hd => ?_) ?_
    · have h1 : x 8 = _ := hd 8 (by kernel_rfl)
      exact leaves_val rfl (v := .pointer (some ⟨p, 0, none⟩)) (by go_simp) rfl
    refine locals_cons (fun x W hE hd => ?_) ?_
    · have h1 : x 9 = _ := hd 9 (by kernel_rfl)
      exact leaves_val rfl (v := .pointer (some ⟨p, 10, none⟩)) (by go_simp) rfl
    refine locals_cons (fun x W hE hd => ?_) ?_
    · have h1 : x 10 = _ := hd 10 (by kernel_rfl)
      have c10 := (B0.ext hE B0.lt).cell 10
      simp only [List.getElem?_cons_zero, List.getElem?_cons_succ, List.cons_append, List.nil_append] at c10
      exact leaves_val rfl (v := .int .i64 t.length) (by go_simp) rfl
    refine locals_cons (fun x W hE hd => ?_) ?_
    · have h1 : x 11 = _ := hd 11 (by kernel_rfl)
      exact leaves_call rfl (f := 142) (args := #[.int .i64 t.length]) (by go_simp) ((HE.out W).mono (by rintro e9 W9 ⟨rfl, h9⟩; exact ⟨_, rfl, h9, rfl⟩))
    refine locals_cons (fun x W hE hd => ?_) ?_
    · have h1 : x 7 = _ := hd 7 (by kernel_rfl)
      have h2 : x 12 = _ := hd 12 (by kernel_rfl)
      have hap := HAP.out
      have hz : ¬ (9223372036854775807 < T.length + E.length) := by omega
      exact leaves_val rfl (v := .string (ofL (T ++ E))) (by go_simp) rfl
    refine locals_cons (fun x W hE hd => ?_) ?_
    · have h1 : x 3 = _ := hd 3 (by kernel_rfl)
      have h2 : x 13 = _ := hd 13 (by kernel_rfl)
      exact leaves_call rfl (f := 136) (args := #[stV sv, .string (ofL (T ++ E))]) (by go_simp) ((HO.out W (hT.ext hE)).mono (by rintro e9 W9 ⟨rfl, h9⟩; exact ⟨_, rfl, h9, rfl⟩))
    refine locals_cons (fun x W hE hd => ?_) ?_
    · have h1 : x 14 = _ := hd 14 (by kernel_rfl)
      exact leaves_call rfl (f := 135) (args := #[stV u]) (by go_simp) ((tell_any u W).mono (by rintro e9 W9 ⟨rfl, h9⟩; exact ⟨_, rfl, h9, rfl⟩))
    refine locals_cons (fun x W hE hd => ?_) locals_nil
    · have h1 : x 15 = _ := hd 15 (by kernel_rfl)
      exact leaves_val rfl (v := .string (ofL (tellS u))) (by go_simp) rfl
  · intro x W1 hE1 hV
    have h16 : x 16 = _ := hV 16 (by decide)
    clear hV
    go_wp2
    refine bodyPost_ret (v := .string (ofL (tellS u))) (by simp [results, Tryz.results116, go_sem, h16]) rfl ?_
    exact ⟨rfl, hE1⟩
end Go.Proofs.YtejhiekikblbiaaGreatDoor

namespace Go.Proofs.YtejhiekikblbiaaGreatDoor
open Go.RowKit

theorem storeCells_T (P : Program) (g o : Nat) (t : TypeId) (fz : Nat × Nat) : ∀ (vs : List Value) (i : Nat) (cur : Array Value) (w : World), w.heap[g]? = some (.cells cur t fz) → (fz.2 = 0 ∨ cur.size ≤ fz.1) → o + i + vs.length ≤ cur.size → (∀ v ∈ vs, v.oneCell' = true) →
    (storeCells ⟨g, o, none⟩ vs i).run P w = .ok () (w.setRow g (cur.toList.take (o + i) ++ vs ++ cur.toList.drop (o + i + vs.length)).toArray)
  | [], i, cur, w, hg, _, _, _ => by
    simp only [storeCells, List.append_nil, List.length_nil, Nat.add_zero, List.take_append_drop, Array.toArray_toList]
    rw [setRow_self w g cur t fz hg]
    rfl
  | v :: rest, i, cur, w, hg, hfz, hl, h1 => by
    have hi : o + i < cur.size := by simp at hl; omega
    have hadd : (⟨g, o, none⟩ : Addr).add i = ⟨g, o + i, none⟩ := by unfold Addr.add; split <;> simp_all
    have hcell : w.cell? ⟨g, o + i, none⟩ = some cur[o + i] := by simp [World.cell?, hg, hi]
    have hfro : w.frozen? ⟨g, o + i, none⟩ = false := by
      obtain ⟨lo, hi'⟩ := fz
      simp only [World.frozen?, hg, Bool.and_eq_false_iff, decide_eq_false_iff_not]
      simp only at hfz
      omega
    have hst : (store ((⟨g, o, none⟩ : Addr).add i) v).run P w = .ok () (w.setRow g (cur.setIfInBounds (o + i) v)) := by
      rw [hadd, run_store P w _ v _ (h1 v (by simp)), hcell]
      simp [hfro, setCell_eq_setRow w g (o + i) cur t fz v hg]
    have ih := storeCells_T P g o t fz rest (i + 1) (cur.setIfInBounds (o + i) v) (w.setRow g (cur.setIfInBounds (o + i) v)) (setRow_heap w g cur _ t _ hg) (by simpa using hfz) (by simp at hl ⊢; omega) (fun x hx => h1 x (by simp [hx]))
    simp only [storeCells, Sem.run_bind, hst, Result.andThen_ok, ih, setRow_setRow]
    congr 3
    have e := list_seg_step cur.toList (o + i) v rest (by simp at hl ⊢; omega)
    simpa [Array.toList_setIfInBounds, Nat.add_assoc] using e

/-- A slice of the call's own, of elements of one cell; the row's mark, if there is one, lies behind its cells. -/
def OwnT (w : World) (base : Nat) (e : TypeId) (v : Value) (n : Nat) (xs : List Value) : Prop :=
  xs.length = n ∧ ((v = .slice none 0 0 ∧ n = 0) ∨
    ∃ g cap cur fz, v = .slice (some ⟨g, 0, none⟩) n cap ∧ base ≤ g ∧ w.heap[g]? = some (.cells cur e fz) ∧ (fz.2 = 0 ∨ cap ≤ fz.1) ∧ n ≤ cap ∧ cap ≤ maxLen ∧ cur.size = cap ∧ cur.toList.take n = xs)

section
variable {P : Program} {t e : TypeId} {z : Value} {bytes : Nat} {w : World} {base n : Nat} {v : Value} {xs : List Value}

theorem OwnT.of (h : w.ownsRow base e 1 v n xs) : OwnT w base e v n xs := by
  refine ⟨by simpa using h.1, ?_⟩
  rcases h.2 with hn | ⟨g, cap, cur, hv, hb, hg, hn, hm, hs, ht⟩
  · exact .inl hn
  · exact .inr ⟨g, cap, cur, (0, 0), hv, hb, hg, .inl rfl, hn, hm, by simpa using hs, by simpa using ht⟩
theorem OwnT.lt (h : OwnT w base e v n xs) : ∀ k, v.ownBlock = some k → base ≤ k ∧ k < w.heap.size := by
  intro k hk
  rcases h.2 with ⟨rfl, _⟩ | ⟨g, cap, cur, fz, rfl, hb, hg, _⟩
  · simp [Value.ownBlock] at hk
  · simp [Value.ownBlock] at hk
    subst hk
    exact ⟨hb, (Array.getElem?_eq_some_iff.1 hg).1⟩
theorem OwnT.kept {w' : World} (h : OwnT w base e v n xs) (hE : ∀ k, base ≤ k → k < w.heap.size → w'.heap[k]? = w.heap[k]?) : OwnT w' base e v n xs := by
  refine ⟨h.1, ?_⟩
  rcases h.2 with hn | ⟨g, cap, cur, fz, rfl, hb, hg, rest⟩
  · exact .inl hn
  · refine .inr ⟨g, cap, cur, fz, rfl, hb, ?_, rest⟩
    rw [hE g hb (Array.getElem?_eq_some_iff.1 hg).1]
    exact hg
theorem OwnT.alloc (h : OwnT w base e v n xs) (o : Obj) : OwnT (w.alloc o) base e v n xs := h.kept fun k _ hk => Below.heap_alloc w o k hk
theorem OwnT.eq {m : Nat} {ys : List Value} (h : OwnT w base e v n xs) (hx : xs = ys) (hn : n = m) : OwnT w base e v m ys := by rw [← hx, ← hn]; exact h
theorem OwnT.slice (h : OwnT w base e v n xs) : ∃ A c, v = .slice A n c := by
  rcases h.2 with ⟨rfl, rfl⟩ | ⟨g, cap, cur, fz, rfl, _⟩
  · exact ⟨_, _, rfl⟩
  · exact ⟨_, _, rfl⟩
theorem OwnT.cells (h : OwnT w base e v n xs) {g : Nat} (hg : v.ownBlock = some g) : ∀ j u, xs[j]? = some u → w.cell? ((⟨g, 0, none⟩ : Addr).add j) = some u := by
  intro j u hu
  rcases h.2 with ⟨rfl, _⟩ | ⟨g', cap, cur, fz, rfl, _, hgg, _, _, _, _, htake⟩
  · simp [Value.ownBlock] at hg
  · simp [Value.ownBlock] at hg
    subst hg
    have hadd : (⟨g', 0, none⟩ : Addr).add j = ⟨g', j, none⟩ := by unfold Addr.add; split <;> simp_all
    rw [hadd, cell_of_row w g' j cur e fz hgg]
    rw [← htake, List.getElem?_take] at hu
    split at hu
    · simpa using hu
    · cases hu

theorem run_append_room_T (w : World) (t ty e : TypeId) (i : TypeInfo) (ht : P.underlying t = some (.slice e)) (hi : P.info? e = some i) (hsz : i.size = 1)
    (g sLen sCap : Nat) (cur : Array Value) (fz : Nat × Nat) (hg : w.heap[g]? = some (.cells cur e fz)) (hfz : fz.2 = 0 ∨ cur.size ≤ fz.1)
    (a : Addr) (m c : Nat) (news : List Value) (hl : news.length = m) (hnews : ∀ j u, news[j]? = some u → w.cell? (a.add j) = some u) (h1 : ∀ u ∈ news, u.oneCell' = true)
    (hroom : sLen + m ≤ sCap) (hfit : sLen + news.length ≤ cur.size) :
    (Builtin.append_ #[t, t] ty #[.slice (some ⟨g, 0, none⟩) sLen sCap, .slice (some a) m c]).run P w =
      .ok (.slice (some ⟨g, 0, none⟩) (sLen + m) sCap) (w.setRow g (cur.toList.take sLen ++ news ++ cur.toList.drop (sLen + news.length)).toArray) := by
  have hf := run_firstCells_some (P := P) w 1 m a m c news (by simpa using hl) hnews
  have hst := storeCells_T P g sLen e fz news 0 cur w hg hfz (by simpa using hfit) h1
  simp only [Nat.add_zero] at hst
  simp [Builtin.append_, run_underlying ht, sizeOf, typeInfo, hi, hsz, Builtin.lenOf, hroom, hf, Addr.add_lit, hst]

theorem run_app_T (E : Elem P t e z 1 bytes) (ty : TypeId) (h : OwnT w base e v n xs) (a : Addr) (m c : Nat) (news : List Value) (hl : news.length = m) (hnews : ∀ j u, news[j]? = some u → w.cell? (a.add j) = some u)
    (h1 : ∀ u ∈ news, u.oneCell' = true) (h63 : n + m ≤ 9223372036854775807) (hbytes : (n + m) * bytes ≤ 140737488355328) (hbase : base ≤ w.heap.size) :
    ∃ v' w', (Builtin.append_ #[t, t] ty #[v, .slice (some a) m c]).run P w = .ok v' w' ∧ OwnT w' base e v' (n + m) (xs ++ news) ∧ w.grownBy w' v.ownBlock := by
  obtain ⟨i, hi, hz, hsz, hby⟩ := E.hi
  have ht := E.ht
  rcases h.2 with ⟨rfl, rfl⟩ | ⟨g, cap, cur, fz, rfl, hbg, hg, hfz, hnc, hcm, hcs, htake⟩
  · have hx : xs = [] := List.eq_nil_of_length_eq_zero h.1
    subst hx
    obtain ⟨v', w', r1, r2, r3, _⟩ := run_append_own (P := P) w base t ty e i z 1 bytes ht hi hz hsz hby E.hz E.h0 (.slice none 0 0) 0 [] (World.ownsRow_nil w base e 1) a m c news (by simpa using hl) hnews h1 (by unfold maxLen; omega) hbytes hbase
    exact ⟨v', w', r1, OwnT.of r2, r3⟩
  · have hlen : (xs ++ news).length = n + m := by rw [List.length_append, h.1, hl]
    by_cases hroom : n + m ≤ cap
    · have hr := run_append_room_T (P := P) w t ty e i ht hi hsz g n cap cur fz hg (by rw [hcs]; exact hfz) a m c news hl hnews h1 hroom (by omega)
      refine ⟨_, _, hr, ⟨hlen, .inr ⟨g, cap, _, fz, rfl, hbg, setRow_heap w g cur _ e _ hg, hfz, hroom, hcm, ?_, ?_⟩⟩, ⟨rfl, rfl, rfl, by simp, fun k _ hk => setRow_other w g k _ (fun e => hk (by simp [Value.ownBlock, e]))⟩⟩
      · simp only [List.size_toArray, List.length_append, List.length_take, List.length_drop, Array.length_toList]
        omega
      · rw [htake, ← hlen]
        exact List.take_left
    · have holds : ∀ j u, xs[j]? = some u → w.cell? ((⟨g, 0, none⟩ : Addr).add j) = some u := h.cells (g := g) rfl
      subst hby
      have hr := run_append_grow (P := P) w t ty e i z ht hi hz ⟨g, 0, none⟩ n cap xs (by rw [h.1, hsz, Nat.mul_one]) holds a m c news (by rw [hl, hsz, Nat.mul_one]) hnews (by omega) (by omega) (growslice_fits (by omega) hbytes)
      have hge := grownCap_ge w (n + m) cap e
      have hcm2 : grownCap w (n + m) cap e ≤ maxLen := grownCap_le_maxLen w (n + m) cap e (by unfold maxLen; omega)
      refine ⟨_, _, hr, ⟨hlen, .inr ⟨w.heap.size, _, _, (0, 0), rfl, hbase, heap_alloc_new w.drew _, .inl rfl, hge, hcm2, ?_, ?_⟩⟩, ⟨rfl, rfl, rfl, by simp, fun k hk _ => Below.heap_alloc w.drew _ k hk⟩⟩
      · simp only [Array.size_append, List.size_toArray, size_zeroCells, E.hz, h.1, hl]
        omega
      · simp only [Array.toList_append, List.append_assoc]
        rw [← List.append_assoc, ← hlen]
        exact List.take_left

/-- append(v, x, ..) of elements that are written out. -/
theorem wpl_appT (E : Elem P t e z 1 bytes) {ops : Array Oper} {rest : List Oper} {o : Oper} {a : Act} {Q : Exit → Act → World → Prop} {news : List Value} {e' : TypeId}
    (hgd : o.guard = none) (s x : Operand) (ho : o.op = .call { callee := .builtin .append, args := #[s, x], argTypes := #[t, t] })
    (hown : OwnT w base e v n xs) (m : Nat) (hs : a.eval s = v) (hx : a.eval x = .slice (some ⟨w.heap.size, 0, none⟩) m m)
    (hl : news.length = m) (h1 : ∀ u ∈ news, u.oneCell' = true) (h63 : n + m ≤ 9223372036854775807) (hbytes : (n + m) * bytes ≤ 140737488355328) (hbase : base ≤ w.heap.size)
    (h : ∀ v' w', OwnT w' base e v' (n + m) (xs ++ news) → w.grownBy w' v.ownBlock → wpList P ops Q rest (a.put o.dst v') w') : wpList P ops Q (o :: rest) a (w.alloc (.cells news.toArray e')) := by
  obtain ⟨v', w', hr, h2, h3⟩ := run_app_T E o.type (hown.alloc (.cells news.toArray e')) ⟨w.heap.size, 0, none⟩ m m news hl (cells_lit w news e' _) h1 h63 hbytes (by simp; omega)
  refine wpList_plain hgd fun K hK => ?_
  unfold Oper.wp execOp
  simp only [ho, resolve, invoke, builtin, Sem.run_bind, Sem.run_pure, Result.andThen_ok, List.map_toArray, List.map_cons, List.map_nil, hs, hx, hr]
  exact hK _ _ (h v' w' h2 ⟨h3.os, h3.tape, h3.output, Nat.le_trans (by simp) h3.size, fun k hk hne => (h3.block k (by simp; omega) hne).trans (Below.heap_alloc w _ k hk)⟩)

theorem Ext.ownT {a b c : World} {m : Nat} {u : Value} {ys : List Value} (h : Ext a b) (hg : b.grownBy c u.ownBlock) (ho : OwnT b base e u m ys) (hb : a.heap.size ≤ base) : Ext a c :=
  h.gr hg fun k hk => by have := ho.lt k hk; omega

/-- string(v). -/
theorem run_str_T {l : List UInt8} (src dst e' : TypeId) (hs : P.underlying src = some (.slice e')) (he : P.underlying e' = some (.int .u8)) (hd : P.underlying dst = some .string)
    (hown : OwnT w base e v n (l.map U8)) : (convert src dst v).run P w = .ok (.string (ofL l)) w := by
  have hl : l.length = n := by simpa using hown.1
  rcases hown.2 with ⟨rfl, rfl⟩ | ⟨g, cap, cur, fz, rfl, hrest⟩
  · have hl0 : l = [] := List.eq_nil_of_length_eq_zero hl
    subst hl0
    rw [run_convert_bytes_string w src dst e' _ _ _ hs he hd]
    rfl
  · exact run_str_cells w src dst e' hs he hd _ n cap l hl (hown.cells rfl)

/-- []byte(s). -/
theorem run_bytes_T (w : World) (src dst e : TypeId) (s : ByteArray) (hs : P.underlying src = some .string) (hd : P.underlying dst = some (.slice e)) (he : P.underlying e = some (.int .u8)) (h63 : s.size ≤ 9223372036854775807) :
    ∃ v w', (convert src dst (.string s)).run P w = .ok v w' ∧ OwnT w' w.heap.size e v s.size ((toL s).map U8) ∧ Ext w w' := by
  refine ⟨_, _, Lib.run_convert_string_bytes w src dst e s hs hd he, ⟨by rw [List.length_map, length_toL], .inr ⟨w.heap.size, _, _, _, rfl, Nat.le_refl _, Lib.bytesWorld_at_new w e s, .inr ?_, grownCap_ge w s.size 0 e, grownCap_le_maxLen w s.size 0 e (by unfold maxLen; omega), ?_, ?_⟩⟩,
    ⟨rfl, rfl, rfl, by rw [Lib.bytesWorld_size]; omega, fun k hk => Lib.bytesWorld_at_old w e s k hk⟩⟩
  · have := grownCap_ge w s.size 0 e
    simp only [Lib.bytesCells, Array.size_append, Array.size_map, Array.size_replicate, ByteArray.size_data]
    omega
  · have := grownCap_ge w s.size 0 e
    simp only [Lib.bytesCells, Array.size_append, Array.size_map, Array.size_replicate, ByteArray.size_data]
    omega
  · have e1 : (Lib.bytesCells w e s).toList = (toL s).map U8 ++ List.replicate (grownCap w s.size 0 e - s.size) (.int .u8 0) := by
      simp [Lib.bytesCells, toL]
      intro a _; rfl
    rw [e1, List.take_append_of_le_length (by rw [List.length_map, length_toL]; omega), List.take_of_length_le (by rw [List.length_map, length_toL]; omega)]
end
end Go.Proofs.YtejhiekikblbiaaGreatDoor

namespace Go.Proofs.YtejhiekikblbiaaGreatDoor
open Go.RowKit

theorem Tryz.bytesT (w : World) (s : ByteArray) (h63 : s.size ≤ 9223372036854775807) : ∃ v w', (convert 9 99 (.string s)).run Tryz.prog w = .ok v w' ∧ OwnT w' w.heap.size 5 v s.size ((toL s).map U8) ∧ Ext w w' :=
  run_bytes_T w _ _ _ s Tryz.underlying9 Tryz.underlying99 Tryz.underlying5 h63
theorem Tryz.strT {w : World} {base : Nat} {v : Value} {n : Nat} {l : List UInt8} (hown : OwnT w base 5 v n (l.map U8)) : (convert 99 9 v).run Tryz.prog w = .ok (.string (ofL l)) w :=
  run_str_T _ _ _ Tryz.underlying99 Tryz.underlying5 Tryz.underlying9 hown
def slN : Value → Nat
  | .slice _ n _ => n
  | _ => 0

set_option maxRecDepth 100000 in
set_option maxHeartbeats 4000000 in
theorem rspad_any (s : List UInt8) (w : World) (hs : s.length ≤ 1000000) : Calls Tryz.prog 93 #[.string (ofL s)] w fun e w' => e = .returned (.string (ofL (shaPad s))) ∧ Ext w w' := by
  obtain ⟨n, hn⟩ : ∃ n, s.length = n := ⟨_, rfl⟩
  rw [hn] at hs
  obtain ⟨z, hz⟩ : ∃ z : Nat, (119 - n % 64) % 64 = z := ⟨_, rfl⟩
  have z0 : z < 64 := by omega
  have z1 : ∀ j : Nat, j < z → ((((n : Int) + 1 + j) % 64 != 56) = true) := fun j hj => by simp; omega
  have z2 : (((n : Int) + 1 + z) % 64 != 56) = false := by simp; omega
  have hl : shaPad s = s ++ 128 :: (List.replicate z 0 ++ be8 (8 * n)) := by unfold shaPad endingL; rw [hn, hz]
  obtain ⟨vb, wb, hrun, hownb, hEb⟩ := Tryz.bytesT w (ofL s) (by rw [size_ofL, hn]; omega)
  rw [size_ofL, hn, toL_ofL] at hownb
  have hsz : (ofL s).size = n := by rw [size_ofL, hn]
  have HL := Lib.hid hl; have HZ1 := Lib.hid z1; have HZ2 := Lib.hid z2; have HN := Lib.hid hn
  clear hl z1 z2 hz hn
  go_enter Tryz.func93, Tryz.ntmps93
  go_wp2_with (first
    | (at_builtin; refine wpl_appT Tryz.elemU8 rfl _ _ rfl hownb 1 rfl rfl rfl (by intro u hu; simp at hu; rw [hu]; rfl) (by omega) (by omega) hEb.size ?_; intro v1 w1 hown1 hg1; have hE1 := hEb.ownT hg1 hownb (Nat.le_refl _); clear hownb hg1 hrun hEb))
  go_loopw [3] (fun b wr => ∃ j : Nat, j ≤ z ∧ (∃ A c, b = .slice A (n + 1 + j) c) ∧ Ext w wr ∧ OwnT wr w.heap.size 5 b (n + 1 + j) (s.map U8 ++ [.int .u8 128] ++ List.replicate j (.int .u8 0))) (fun b _ => n + 1 + z - slN b)
  case atStart =>
    obtain ⟨A, c, hv⟩ := hown1.slice
    exact ⟨0, by omega, ⟨A, c, hv⟩, hE1, by simpa using hown1⟩
  case round =>
    clear hown1 hE1
    obtain ⟨j, hj, ⟨A, c, rfl⟩, hE1, hown1⟩ := hrel
    by_cases hlt : j < z
    · have hz1 := HZ1.out j hlt
      go_wp2_with (at_builtin; refine wpl_appT Tryz.elemU8 rfl _ _ rfl hown1 1 rfl rfl rfl (by intro u hu; simp at hu; rw [hu]; rfl) (by omega) (by omega) hE1.size ?_; intro v2 w2 hown2 hg2; have hE2 := hE1.ownT hg2 hown1 (Nat.le_refl _); clear hown1 hg2 hE1)
      obtain ⟨A2, c2, rfl⟩ := hown2.slice
      go_roundw
      case rel => exact ⟨j + 1, by omega, ⟨A2, c2, rfl⟩, hE2, hown2.eq (by rw [List.append_assoc, ← List.replicate_succ']) (by omega)⟩
      case measure => simp [slN]; omega
    · obtain rfl : j = z := by omega
      have hz2 := HZ2.out
      go_wp2
      clear hz2
      have hown3 := hown1
      have hE3 := hE1
      clear hown1 hE1
      refine wp_loop_rounds 9 ?_
      rw [rounds_succ]
      go_wp2_with (at_builtin; refine wpl_appT Tryz.elemU8 rfl _ _ rfl hown3 1 rfl rfl rfl (by intro u hu; simp at hu; rw [hu]; rfl) (by omega) (by omega) (by have := hE3.size; omega) ?_; intro v4 w4 hown4 hg4; have hE4 := hE3.ownT hg4 hown3 (Nat.le_refl _); clear hown3 hg4 hE3)
      rw [rounds_succ]
      go_wp2_with (at_builtin; refine wpl_appT Tryz.elemU8 rfl _ _ rfl hown4 1 rfl rfl rfl (by intro u hu; simp at hu; rw [hu]; rfl) (by omega) (by omega) (by have := hE4.size; omega) ?_; intro v5 w5 hown5 hg5; have hE5 := hE4.ownT hg5 hown4 (Nat.le_refl _); clear hown4 hg5 hE4)
      rw [rounds_succ]
      go_wp2_with (at_builtin; refine wpl_appT Tryz.elemU8 rfl _ _ rfl hown5 1 rfl rfl rfl (by intro u hu; simp at hu; rw [hu]; rfl) (by omega) (by omega) (by have := hE5.size; omega) ?_; intro v6 w6 hown6 hg6; have hE6 := hE5.ownT hg6 hown5 (Nat.le_refl _); clear hown5 hg6 hE5)
      rw [rounds_succ]
      go_wp2_with (at_builtin; refine wpl_appT Tryz.elemU8 rfl _ _ rfl hown6 1 rfl rfl rfl (by intro u hu; simp at hu; rw [hu]; rfl) (by omega) (by omega) (by have := hE6.size; omega) ?_; intro v7 w7 hown7 hg7; have hE7 := hE6.ownT hg7 hown6 (Nat.le_refl _); clear hown6 hg7 hE6)
      rw [rounds_succ]
      go_wp2_with (at_builtin; refine wpl_appT Tryz.elemU8 rfl _ _ rfl hown7 1 rfl rfl rfl (by intro u hu; simp at hu; rw [hu]; rfl) (by omega) (by omega) (by have := hE7.size; omega) ?_; intro v8 w8 hown8 hg8; have hE8 := hE7.ownT hg8 hown7 (Nat.le_refl _); clear hown7 hg8 hE7)
      rw [rounds_succ]
      go_wp2_with (at_builtin; refine wpl_appT Tryz.elemU8 rfl _ _ rfl hown8 1 rfl rfl rfl (by intro u hu; simp at hu; rw [hu]; rfl) (by omega) (by omega) (by have := hE8.size; omega) ?_; intro v9 w9 hown9 hg9; have hE9 := hE8.ownT hg9 hown8 (Nat.le_refl _); clear hown8 hg9 hE8)
      rw [rounds_succ]
      go_wp2_with (at_builtin; refine wpl_appT Tryz.elemU8 rfl _ _ rfl hown9 1 rfl rfl rfl (by intro u hu; simp at hu; rw [hu]; rfl) (by omega) (by omega) (by have := hE9.size; omega) ?_; intro v10 w10 hown10 hg10; have hE10 := hE9.ownT hg10 hown9 (Nat.le_refl _); clear hown9 hg10 hE9)
      rw [rounds_succ]
      go_wp2_with (at_builtin; refine wpl_appT Tryz.elemU8 rfl _ _ rfl hown10 1 rfl rfl rfl (by intro u hu; simp at hu; rw [hu]; rfl) (by omega) (by omega) (by have := hE10.size; omega) ?_; intro v11 w11 hown11 hg11; have hE11 := hE10.ownT hg11 hown10 (Nat.le_refl _); clear hown10 hg11 hE10)
      rw [rounds_succ]
      have hv : ∀ (m : Nat), U8 (m % 256).toUInt8 = Value.int .u8 ((m % 256 : Nat) : Int) := fun m => by
        unfold U8
        rw [Nat.toUInt8, UInt8.toNat_ofNat', show 2 ^ 8 = 256 from rfl, Nat.mod_mod]
      have hown := hown11.eq (ys := (shaPad s).map U8) (m := (shaPad s).length) (hn := by rw [HL.out]; simp [be8, HN.out]; omega) (hx := by
        rw [HL.out]
        simp only [be8, List.map_cons, List.map_append, List.map_nil, List.map_replicate, hv, List.nil_append, List.cons_append, List.append_assoc]
        rw [show U8 128 = .int .u8 128 from rfl, show U8 0 = .int .u8 0 from rfl]
        congr 3
        repeat (first | rfl | (refine cons_int (by omega) ?_)))
      have hcv := Tryz.strT hown
      clear hown hown11 HL hv HZ1 HZ2 HN
      go_wp2
      go_ret
      exact ⟨rfl, hE11⟩
end Go.Proofs.YtejhiekikblbiaaGreatDoor

namespace Go
open Go.Proofs.YtejhiekikblbiaaGreatDoor

section
variable {P : Program} {ops : Array Oper} {w0 : World} {V : Nat → Value → World → Prop} {a0 : Act}

/-- What is to be shown of operation i, over the frame that the operations of r0 fill. -/
def LocalR (P : Program) (ops : Array Oper) (w0 : World) (V : Nat → Value → World → Prop) (r0 : List Oper) (a0 : Act) (i : Nat) (o : Oper) : Prop :=
  ∀ (u : Nat → Value) (w : World), Ext w0 w → (∀ k, (o.after.any fun e => Region.binds .any e && e.on == k) = true → V k (u k) w) → OpLeaves P ops (V i) o (fillOps r0 u 0 a0) w
def LocalsR (P : Program) (ops : Array Oper) (w0 : World) (V : Nat → Value → World → Prop) (r0 : List Oper) (a0 : Act) : List Oper → Nat → Prop
  | [], _ => True
  | o :: r, i => LocalR P ops w0 V r0 a0 i o ∧ LocalsR P ops w0 V r0 a0 r (i + 1)
theorem localsR_nil {r0 : List Oper} {i} : LocalsR P ops w0 V r0 a0 [] i := trivial
theorem localsR_cons {r0 : List Oper} {o : Oper} {r : List Oper} {i : Nat} (h : LocalR P ops w0 V r0 a0 i o) (hr : LocalsR P ops w0 V r0 a0 r (i + 1)) : LocalsR P ops w0 V r0 a0 (o :: r) i := ⟨h, hr⟩
theorem localsR_at {r0 : List Oper} : ∀ (r : List Oper) (k i : Nat) (o : Oper), LocalsR P ops w0 V r0 a0 r k → r[i]? = some o → LocalR P ops w0 V r0 a0 (k + i) o
  | [], _, _, _, _, h => by cases h
  | o' :: r, k, 0, o, hl, h => by obtain rfl : o' = o := by simpa using h
                                  exact hl.1
  | o' :: r, k, i + 1, o, hl, h => by
    rw [show k + (i + 1) = k + 1 + i by omega]
    exact localsR_at r (k + 1) i o hl.2 (by simpa using h)

def headDone (n m : Nat) : Array Bool := Array.replicate n true ++ Array.replicate m false
theorem headDone_at (n m k : Nat) : (headDone n m)[k]? = if k < n then some true else if k < n + m then some false else none := by
  unfold headDone
  rw [Array.getElem?_append]
  simp only [Array.size_replicate, Array.getElem?_replicate]
  by_cases h1 : k < n
  · simp [h1]
  · simp only [h1, if_false]
    by_cases h2 : k < n + m
    · rw [if_pos (by omega), if_pos h2]
    · rw [if_neg (by omega), if_neg h2]

theorem wpAny_tails {Q : Exit → Act → World → Prop} {n : Nat} (hs : Region.sinkB .any ops n = true) (hc : Region.chainB .any ops n = true) (hn : n < ops.size) (hseq : Region.seqB .any ops (ops.size - n) n (headDone n (ops.size - n)) = true)
    (hd : dstsOk ((ops.toList.take n).map (·.dst)) = true) (ha : aftersOk ops.toList 0 = true)
    (hst : ∀ k v w w', Ext w0 w → Ext w w' → V k v w → V k v w') (hl : LocalsR P ops w0 V (ops.toList.take n) a0 (ops.toList.take n) 0)
    (hE : ∀ u w, Ext w0 w → (∀ k, k < n → V k (u k) w) → wpList P ops Q (ops.toList.drop n) (fillOps (ops.toList.take n) u 0 a0) w) :
    ∀ (f : Nat) (listed : Array Bool) (u : Nat → Value) (w : World), HeadInv .any ops n listed → (listed.toList.take n).count true + f = n → Ext w0 w →
      (∀ k, listed.getD k false = true → V k (u k) w) → wpAny P .any ops Q (f + (ops.size - n)) listed (fillOps (ops.toList.take n) u 0 a0) w := by
  intro f
  induction f with
  | zero =>
    intro listed u w inv hcount hw hV
    have hsz := inv.size
    have hlen : (listed.toList.take n).length = n := by rw [List.length_take, Array.length_toList]; omega
    have hall : ∀ k, k < n → listed[k]? = some true := by
      intro k hk
      have h1 : ∀ b ∈ listed.toList.take n, true = b := List.count_eq_length.1 (by rw [hlen]; omega)
      have hk' : k < listed.size := by omega
      rw [Array.getElem?_eq_getElem hk']
      congr 1
      refine (h1 _ ?_).symm
      rw [List.mem_take_iff_getElem]
      exact ⟨k, by rw [Array.length_toList]; omega, by simp⟩
    have htail : ∀ k, n ≤ k → k < ops.size → listed[k]? = some false := by
      intro k hk1 hk2
      have h0 := inv.tail k hk1 hk2
      have hk' : k < listed.size := by omega
      rw [Array.getD_eq_getD_getElem?, Array.getElem?_eq_getElem hk'] at h0
      rw [Array.getElem?_eq_getElem hk']
      simpa using h0
    have heq : listed = headDone n (ops.size - n) := by
      apply Array.ext_getElem?
      intro k
      rw [headDone_at]
      by_cases h1 : k < n
      · rw [if_pos h1]; exact hall k h1
      · rw [if_neg h1]
        by_cases h2 : k < ops.size
        · rw [if_pos (by omega)]; exact htail k (by omega) h2
        · rw [if_neg (by omega)]; exact Array.getElem?_eq_none (by omega)
    have hdl : (ops.toList.drop n).length = ops.size - n := by simp
    have H := wpAny_of_seq (P := P) (md := .any) (Q' := Q) (ops.toList.drop n) n listed (fillOps (ops.toList.take n) u 0 a0) w (fun j => by simp [List.getElem?_drop]) (by rw [hdl, heq]; exact hseq)
      (hE u w hw fun k hk => hV k (by rw [Array.getD_eq_getD_getElem?, hall k hk]; rfl))
    rw [hdl] at H
    rw [Nat.zero_add]
    exact H
  | succ f ih =>
    intro listed u w inv hcount hw hV
    have hsz := inv.size
    have hlen : (listed.toList.take n).length = n := by rw [List.length_take, Array.length_toList]; omega
    -- one of the first ones is not listed yet
    have hex : ∃ i, i < n ∧ listed.getD i true = false := by
      apply Classical.byContradiction
      intro hno
      have : ∀ b ∈ listed.toList.take n, true = b := by
        intro b hb
        obtain ⟨k, hk, rfl⟩ := List.mem_iff_getElem.1 hb
        have hk2 : k < n := by omega
        cases hq : (listed.toList.take n)[k] with
        | true => rfl
        | false =>
          exfalso
          refine hno ⟨k, hk2, ?_⟩
          have hk' : k < listed.size := by omega
          rw [Array.getD_eq_getD_getElem?, Array.getElem?_eq_getElem hk']
          simpa using hq
      have := List.count_eq_length.2 this
      omega
    obtain ⟨i0, hi0, hun0⟩ := hex
    have hlow : ∀ t, t ∈ Region.ready .any ops listed → t < n := fun t ht => by
      rcases Nat.lt_or_ge t n with h | h
      · exact h
      · exact absurd ht (tail_waits hs hc hn inv _ i0 rfl hi0 hun0 t h)
    rw [show f + 1 + (ops.size - n) = (f + (ops.size - n)) + 1 by omega]
    refine ⟨fun hr => ?_, fun i hi => ?_⟩
    · exfalso
      have : ∀ k, k < n → listed.getD k true = true := by
        intro k
        induction k using Nat.strongRecOn with
        | ind k ihk =>
          intro hk
          cases hb : listed.getD k true with
          | true => rfl
          | false =>
            exfalso
            have hmem : k ∈ Region.ready .any ops listed := by
              rw [mem_ready]
              refine ⟨hb, ops[k]'(by omega), Array.getElem?_eq_getElem (by omega), fun e he _ => ?_⟩
              have h1 := afters_at ops.toList 0 k (ops[k]'(by omega)) ha (by simp [show k < ops.size by omega]) e he
              have h2 := ihk e.on (by omega) (by omega)
              have h3 : e.on < listed.size := by omega
              rw [Array.getD_eq_getD_getElem?, Array.getElem?_eq_getElem h3] at h2 ⊢
              simpa using h2
            rw [hr] at hmem
            cases hmem
      rw [this i0 hi0] at hun0
      cases hun0
    · have hin := hlow i hi
      have inv' := inv.set hi hin
      obtain ⟨h0, o', ho', hall⟩ := mem_ready.1 hi
      have hk' : i < listed.size := by omega
      have ho3 : (ops.toList.take n)[i]? = some o' := by rw [List.getElem?_take, if_pos hin, Array.getElem?_toList]; exact ho'
      have hL := localsR_at (ops.toList.take n) 0 i o' hl ho3
      rw [Nat.zero_add] at hL
      have hss := hL u w hw (fun k hk => by
        rw [Array.any_eq_true] at hk
        obtain ⟨q, hq, he⟩ := hk
        rw [Bool.and_eq_true] at he
        have := hall _ (Array.getElem_mem hq) he.1
        rw [beq_iff_eq.1 he.2] at this
        exact hV k this)
      refine hss.wpOp ho' fun v w' hE' hv => ?_
      rw [fill_upd u v (ops.toList.take n) 0 i a0 o' hd ho3, Nat.zero_add]
      refine ih (listed.setIfInBounds i true) (upd u i v) w' inv' ?_ (hw.tr hE') fun k hk => ?_
      · have hf : (listed.toList.take n)[i]? = some false := by
          rw [Array.getD_eq_getD_getElem?, Array.getElem?_eq_getElem hk'] at h0
          rw [List.getElem?_take, if_pos hin, Array.getElem?_toList, Array.getElem?_eq_getElem hk']
          simpa using h0
        have := count_set (listed.toList.take n) i hf
        rw [Array.toList_setIfInBounds, List.take_set, this]
        omega
      · by_cases hki : k = i
        · subst hki; rw [upd_same]; exact hv
        · rw [upd_ne hki]
          refine hst k _ w w' hw hE' (hV k ?_)
          rw [Array.getD_eq_getD_getElem?, Array.getElem?_setIfInBounds_ne (Ne.symm hki)] at hk
          rw [Array.getD_eq_getD_getElem?]
          exact hk

/-- The whole region. -/
theorem wp_region_tails {Q : Exit → Act → World → Prop} {id : Nat} {w : World} (V : Nat → Value → World → Prop) (n : Nat) (hm : P.follows .mixedOrders = true)
    (hs : Region.sinkB .any ops n = true) (hc : Region.chainB .any ops n = true) (hn : n < ops.size) (hseq : Region.seqB .any ops (ops.size - n) n (headDone n (ops.size - n)) = true)
    (hd : dstsOk ((ops.toList.take n).map (·.dst)) = true) (ha : aftersOk ops.toList 0 = true)
    (hst : ∀ k v w1 w2, Ext w w1 → Ext w1 w2 → V k v w1 → V k v w2) (hl : LocalsR P ops w V (ops.toList.take n) a0 (ops.toList.take n) 0)
    (hE : ∀ u w', Ext w w' → (∀ k, k < n → V k (u k) w') → wpList P ops Q (ops.toList.drop n) (fillOps (ops.toList.take n) u 0 a0) w') : (Code.region id ops true).wp P Q a0 w := by
  have h0 : fillOps (ops.toList.take n) (fun k => (((ops.toList.take n)[k]?).bind fun o => o.dst.bind fun d => a0.tmps[d]?).getD undef) 0 a0 = a0 := by
    refine fill_id _ (ops.toList.take n) 0 a0 fun j o ho => ?_
    simp only [Nat.zero_add, ho, Option.bind_some]
    cases hq : o.dst with
    | none => rfl
    | some d =>
      simp only [Act.put, Option.bind_some]
      by_cases hlt : d < a0.tmps.size
      · rw [Array.getElem?_eq_getElem hlt]
        simp [Array.setIfInBounds, hlt]
      · simp [Array.setIfInBounds, hlt]
  have hr : ∀ k, (Array.replicate ops.size false).getD k false = false := fun k => getD_replicate_false _ _
  refine wp_region_any hm ?_
  have inv0 : HeadInv .any ops n (Array.replicate ops.size false) :=
    ⟨by simp, fun j oj _ hl => (by rw [hr] at hl; cases hl), fun t _ ht => getD_in (by simpa using ht) (hr _)⟩
  have H := wpAny_tails (Q := Q) (w0 := w) hs hc hn hseq hd ha hst hl hE n (Array.replicate ops.size false) (fun k => (((ops.toList.take n)[k]?).bind fun o => o.dst.bind fun d => a0.tmps[d]?).getD undef) w.drew inv0
    (by simp [List.take_replicate, List.count_replicate]) (Ext.rfl' w).dr fun k hk => by rw [hr] at hk; cases hk
  rw [h0, show n + (ops.size - n) = ops.size by omega] at H
  exact H
end
end Go

namespace Go.Proofs.YtejhiekikblbiaaGreatDoor
open Go.RowKit

def stW (v : St) : List UInt32 := [v.a, v.b, v.c, v.d, v.e, v.f, v.g, v.h]
theorem tellS_W (v : St) : tellS v = (stW v).flatMap tell4 := by
  unfold tellS stW
  simp only [List.flatMap_cons, List.flatMap_nil, List.append_nil]
theorem length_tell4 (x : UInt32) : (tell4 x).length = 4 := rfl
theorem length_tells : ∀ l : List UInt32, (l.flatMap tell4).length = 4 * l.length
  | [] => rfl
  | x :: l => by rw [List.flatMap_cons, List.length_append, length_tell4, length_tells l, List.length_cons]; omega
theorem slice4 {w : World} {b : Nat} {x0 x1 x2 x3 : Value} (h0 : w.cell? ⟨b, 0, none⟩ = some x0) (h1 : w.cell? ⟨b, 1, none⟩ = some x1) (h2 : w.cell? ⟨b, 2, none⟩ = some x2) (h3 : w.cell? ⟨b, 3, none⟩ = some x3) :
    ∀ j u, [x0, x1, x2, x3][j]? = some u → w.cell? ((⟨b, 0, none⟩ : Addr).add j) = some u := by
  intro j u hu
  rw [WideShapes.add_plain, Nat.zero_add]
  match j, hu with
  | 0, hu => rw [← Option.some.inj hu]; exact h0
  | 1, hu => rw [← Option.some.inj hu]; exact h1
  | 2, hu => rw [← Option.some.inj hu]; exact h2
  | 3, hu => rw [← Option.some.inj hu]; exact h3

set_option maxRecDepth 100000 in
set_option maxHeartbeats 4000000 in
theorem rtell_any (v : St) (w : World) : Calls Tryz.prog 97 #[stV v] w fun e w' => e = .returned (.string (ofL (tellS v))) ∧ Ext w w' := by
  obtain ⟨L, hL⟩ : ∃ L, stW v = L := ⟨_, rfl⟩
  have hl : L.length = 8 := by rw [← hL]; rfl
  have A00 : ∀ w : World, Arr (w.alloc (.cells (stCells v) 130)) w.heap.size 130 (L.map W32) := fun w => by rw [← hL]; exact Arr.new w 130 (stL v)
  rw [tellS_W, hL]
  have HA := Lib.hid A00
  clear A00 hL
  go_enter Tryz.func97, Tryz.ntmps97
  go_wp2
  go_loopw [3, 4] (fun b i wr => ∃ k : Nat, ∃ vb : Value, vb = b ∧ k ≤ 8 ∧ i = .int .i64 k ∧ Ext w wr ∧ Arr wr w.heap.size 130 (L.map W32) ∧ wr.ownsRow (w.heap.size + 1) 5 1 vb (4 * k) (((L.take k).flatMap tell4).map U8)) (fun _ i _ => 8 - (intOf i).toNat)
  case atStart => exact ⟨0, _, rfl, by omega, rfl, (Ext.rfl' _).al _, HA.out w, World.ownsRow_nil _ _ _ _⟩
  case round =>
    clear HA
    obtain ⟨k, vb, rfl, hk, rfl, hE, A0, hown⟩ := hrel
    by_cases hlt : k < 8
    · obtain ⟨x, hx⟩ : ∃ x, L[k]'(by omega) = x := ⟨_, rfl⟩
      have hcell : ∀ W, Ext wr W → W.cell? ⟨w.heap.size, k, none⟩ = some (W32 x) := fun W hW => by
        rw [(A0.ext hW A0.lt).cell k, List.getElem?_map, List.getElem?_eq_getElem (by omega), hx]; rfl
      have htk : (L.take (k + 1)).flatMap tell4 = (L.take k).flatMap tell4 ++ tell4 x := by
        rw [List.take_succ_eq_append_getElem (by omega), hx, List.flatMap_append]; simp
      have hx32 := x.toNat_lt
      have HT := Lib.hid htk; have HC := Lib.hid hcell
      clear htk hcell hx hl
      go_upto_region 5 with fail
      refine wp_region_tails (fun i v W => match i with
        | 0 => v = vb
        | 1 => v = .int .i64 k
        | 2 => v = .pointer (some ⟨w.heap.size, k, none⟩)
        | 3 => v = W32 x
        | 4 => v = .int .u32 ((x.toNat : Int) / 16777216)
        | 5 => v = .int .u8 ((x.toNat : Int) / 16777216 % 256)
        | 6 => v = .int .i64 k
        | 7 => v = .pointer (some ⟨w.heap.size, k, none⟩)
        | 8 => v = W32 x
        | 9 => v = .int .u32 ((x.toNat : Int) / 65536)
        | 10 => v = .int .u8 ((x.toNat : Int) / 65536 % 256)
        | 11 => v = .int .i64 k
        | 12 => v = .pointer (some ⟨w.heap.size, k, none⟩)
        | 13 => v = W32 x
        | 14 => v = .int .u32 ((x.toNat : Int) / 256)
        | 15 => v = .int .u8 ((x.toNat : Int) / 256 % 256)
        | 16 => v = .int .i64 k
        | 17 => v = .pointer (some ⟨w.heap.size, k, none⟩)
        | 18 => v = W32 x
        | 19 => v = .int .u8 ((x.toNat : Int) % 256)
        | 20 => ∃ b, v = .slice (some ⟨b, 0, none⟩) 4 4 ∧ W.cell? ⟨b, 0, none⟩ = some (.int .u8 ((x.toNat : Int) / 16777216 % 256)) ∧ W.cell? ⟨b, 1, none⟩ = some (.int .u8 ((x.toNat : Int) / 65536 % 256)) ∧ W.cell? ⟨b, 2, none⟩ = some (.int .u8 ((x.toNat : Int) / 256 % 256)) ∧ W.cell? ⟨b, 3, none⟩ = some (.int .u8 ((x.toNat : Int) % 256))
        | _ => True) 21 (by kernel_rfl) (by kernel_rfl) (by kernel_rfl) (by decide) (by kernel_rfl) (by kernel_rfl) (by kernel_rfl) ?_ ?_ ?_
      · intro i v W1 W2 e1 e2 h
        match i, h with
        | 20, ⟨b, h1, h2, h3, h4, h5⟩ => exact ⟨b, h1, ((bcell e2).1 b 0 (World.block_lt_of_cell? _ _ h2)).trans h2, ((bcell e2).1 b 1 (World.block_lt_of_cell? _ _ h2)).trans h3, ((bcell e2).1 b 2 (World.block_lt_of_cell? _ _ h2)).trans h4, ((bcell e2).1 b 3 (World.block_lt_of_cell? _ _ h2)).trans h5⟩
        | 0, h => exact h
        | 1, h => exact h
        | 2, h => exact h
        | 3, h => exact h
        | 4, h => exact h
        | 5, h => exact h
        | 6, h => exact h
        | 7, h => exact h
        | 8, h => exact h
        | 9, h => exact h
        | 10, h => exact h
        | 11, h => exact h
        | 12, h => exact h
        | 13, h => exact h
        | 14, h => exact h
        | 15, h => exact h
        | 16, h => exact h
        | 17, h => exact h
        | 18, h => exact h
        | 19, h => exact h
        | (i + 21), h => exact h
      · refine localsR_cons (fun u W hW hd => leaves_val rfl (v := vb) (by go_simp) rfl) ?_
        refine localsR_cons (fun u W hW hd => leaves_val rfl (v := .int .i64 k) (by go_simp) rfl) ?_
        refine localsR_cons (fun u W hW hd => ?_) ?_
        · have h1 : u 1 = _ := hd 1 (by kernel_rfl)
          exact leaves_val rfl (v := .pointer (some ⟨w.heap.size, k, none⟩)) (by go_simp) rfl
        refine localsR_cons (fun u W hW hd => ?_) ?_
        · have h2 : u 2 = _ := hd 2 (by kernel_rfl)
          have hc := HC.out W hW
          exact leaves_val rfl (v := W32 x) (by go_simp) rfl
        refine localsR_cons (fun u W hW hd => ?_) ?_
        · have h3 : u 3 = _ := hd 3 (by kernel_rfl)
          exact leaves_val rfl (v := .int .u32 ((x.toNat : Int) / 16777216)) (by go_simp) rfl
        refine localsR_cons (fun u W hW hd => ?_) ?_
        · have h4 : u 4 = _ := hd 4 (by kernel_rfl)
          exact leaves_val rfl (v := .int .u8 ((x.toNat : Int) / 16777216 % 256)) (by go_simp; rfl) rfl
        refine localsR_cons (fun u W hW hd => leaves_val rfl (v := .int .i64 k) (by go_simp) rfl) ?_
        refine localsR_cons (fun u W hW hd => ?_) ?_
        · have h6 : u 6 = _ := hd 6 (by kernel_rfl)
          exact leaves_val rfl (v := .pointer (some ⟨w.heap.size, k, none⟩)) (by go_simp) rfl
        refine localsR_cons (fun u W hW hd => ?_) ?_
        · have h7 : u 7 = _ := hd 7 (by kernel_rfl)
          have hc := HC.out W hW
          exact leaves_val rfl (v := W32 x) (by go_simp) rfl
        refine localsR_cons (fun u W hW hd => ?_) ?_
        · have h8 : u 8 = _ := hd 8 (by kernel_rfl)
          exact leaves_val rfl (v := .int .u32 ((x.toNat : Int) / 65536)) (by go_simp) rfl
        refine localsR_cons (fun u W hW hd => ?_) ?_
        · have h9 : u 9 = _ := hd 9 (by kernel_rfl)
          exact leaves_val rfl (v := .int .u8 ((x.toNat : Int) / 65536 % 256)) (by go_simp; rfl) rfl
        refine localsR_cons (fun u W hW hd => leaves_val rfl (v := .int .i64 k) (by go_simp) rfl) ?_
        refine localsR_cons (fun u W hW hd => ?_) ?_
        · have h11 : u 11 = _ := hd 11 (by kernel_rfl)
          exact leaves_val rfl (v := .pointer (some ⟨w.heap.size, k, none⟩)) (by go_simp) rfl
        refine localsR_cons (fun u W hW hd => ?_) ?_
        · have h12 : u 12 = _ := hd 12 (by kernel_rfl)
          have hc := HC.out W hW
          exact leaves_val rfl (v := W32 x) (by go_simp) rfl
        refine localsR_cons (fun u W hW hd => ?_) ?_
        · have h13 : u 13 = _ := hd 13 (by kernel_rfl)
          exact leaves_val rfl (v := .int .u32 ((x.toNat : Int) / 256)) (by go_simp) rfl
        refine localsR_cons (fun u W hW hd => ?_) ?_
        · have h14 : u 14 = _ := hd 14 (by kernel_rfl)
          exact leaves_val rfl (v := .int .u8 ((x.toNat : Int) / 256 % 256)) (by go_simp; rfl) rfl
        refine localsR_cons (fun u W hW hd => leaves_val rfl (v := .int .i64 k) (by go_simp) rfl) ?_
        refine localsR_cons (fun u W hW hd => ?_) ?_
        · have h16 : u 16 = _ := hd 16 (by kernel_rfl)
          exact leaves_val rfl (v := .pointer (some ⟨w.heap.size, k, none⟩)) (by go_simp) rfl
        refine localsR_cons (fun u W hW hd => ?_) ?_
        · have h17 : u 17 = _ := hd 17 (by kernel_rfl)
          have hc := HC.out W hW
          exact leaves_val rfl (v := W32 x) (by go_simp) rfl
        refine localsR_cons (fun u W hW hd => ?_) ?_
        · have h18 : u 18 = _ := hd 18 (by kernel_rfl)
          exact leaves_val rfl (v := .int .u8 ((x.toNat : Int) % 256)) (by go_simp; rfl) rfl
        refine localsR_cons (fun u W hW hd => ?_) localsR_nil
        · have h5 : u 5 = _ := hd 5 (by kernel_rfl)
          have h10 : u 10 = _ := hd 10 (by kernel_rfl)
          have h15 : u 15 = _ := hd 15 (by kernel_rfl)
          have h19 : u 19 = _ := hd 19 (by kernel_rfl)
          exact leaves_new rfl (v := .slice (some ⟨W.heap.size, 0, none⟩) 4 4) (by go_simp; rfl) ((Ext.rfl' W).al _) ⟨_, rfl, by simp [go_sem], by simp [go_sem], by simp [go_sem], by simp [go_sem]⟩
      · intro u W hW hV
        have h0 : u 0 = vb := hV 0 (by decide)
        obtain ⟨bb, h20, k0, k1, k2, k3⟩ := hV 20 (by decide)
        clear hV
        have hown2 := own_ext hown (fun j _ hj => hW.block j hj)
        have hcells := slice4 k0 k1 k2 k3
        have hEW := hE.tr hW
        have hAW := A0.ext hW A0.lt
        refine wpl_app_at Tryz.elemU8 rfl _ _ rfl hown2 4 (by go_simp) (by go_simp; rfl) rfl hcells (by intro u hu; simp at hu; rcases hu with rfl | rfl | rfl | rfl <;> rfl) (by omega) (by omega) (by have := hEW.size; have := A0.lt; have := hW.size; omega) ?_
        intro v2 w2 hown3 hg3
        have hE3 := hEW.own hg3 hown2 (by omega)
        have hA3 : Arr w2 w.heap.size 130 (L.map W32) := by
          have hb := hown2.lt
          exact (hg3.block w.heap.size hAW.lt (fun hh => by have := hb _ hh.symm; omega)).trans hAW
        have hown4 := own_eq hown3 (ys := ((L.take (k + 1)).flatMap tell4).map U8) (m := 4 * (k + 1)) (by rw [HT.out, List.map_append, tell_cell]) (by omega)
        clear hown3 hg3 hcells k0 k1 k2 k3 hown2 hAW hEW hW hown hE A0 HC HT
        go_wp2
        go_roundw
        case rel => exact ⟨k + 1, v2, rfl, by omega, by go_num, hE3, hA3, hown4⟩
        case measure => simp [intOf]; omega
    · rw [List.take_of_length_le (by omega)] at hown
      have hcv := Tryz.str hown
      clear hown A0
      go_wp2
      go_ret
      exact ⟨rfl, hE⟩
end Go.Proofs.YtejhiekikblbiaaGreatDoor
