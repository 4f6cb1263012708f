/-
  A region that draws its order, whose operations only add to the world but for a last one, a store, that waits for all the others: by one fact an operation. No order is walked.
-/
import Derived.Test.YtmnpbpfeoackiaaDoorMhF
namespace Go
open Go.Proofs.YtmnpbpfeoackiaaDoor

/-- The last operation waits for all the others, of itself or by one that it waits for. -/
def waitsO (o : Oper) (k : Nat) : Bool := o.after.any fun e => Region.binds .any e && e.on == k
def lastOk (ops : Array Oper) (o : Oper) (n : Nat) : Bool := (List.range n).all fun k => waitsO o k || (List.range n).any fun j => waitsO o j && waitsFor ops j k

section
variable {P : Program} {ops : Array Oper} {w0 : World} {V : Nat → Value → World → Prop} {a0 : Act}

theorem wpAny_allListed {Q : Exit → Act → World → Prop} {listed : Array Bool} {a : Act} {w : World} (hsz : listed.size = ops.size) (hall : ∀ k, k < ops.size → listed.getD k false = true) (hQ : Q .normal a w) (fuel : Nat) :
    wpAny P .any ops Q fuel listed a w := by
  have hr : Region.ready .any ops listed = [] := by
    rw [List.eq_nil_iff_forall_not_mem]
    intro j hj
    obtain ⟨h0, o, ho, _⟩ := mem_ready.1 hj
    have hj' : j < ops.size := (Array.getElem?_eq_some_iff.1 ho).1
    have := hall j hj'
    have hk' : j < listed.size := by omega
    rw [Array.getD_eq_getD_getElem?, Array.getElem?_eq_getElem hk'] at this h0
    simp at this h0
    rw [this] at h0; cases h0
  cases fuel with
  | zero => exact ⟨hr, hQ⟩
  | succ fuel => exact ⟨fun _ => hQ, fun i hi => by rw [hr] at hi; cases hi⟩

theorem wpAny_tail {Q : Exit → Act → World → Prop} {n : Nat} {o : Oper} (hn : ops.size = n + 1) (ho : ops[n]? = some o) (hlast : lastOk ops o n = true) (hdo : o.dst = none)
    (hd : dstsOk (ops.toList.map (·.dst)) = true) (ha : aftersOk ops.toList 0 = true)
    (hst : ∀ k v w w', Ext w0 w → Ext w w' → V k v w → V k v w') (hl : Locals P ops w0 V a0 (ops.toList.take n) 0)
    (hE : ∀ u w, Ext w0 w → (∀ k, k < n → V k (u k) w) → Region.wanted o (yielded ops (fillOps ops.toList u 0 a0).tmps) = true ∧ ∃ w', (execOp (fillOps ops.toList u 0 a0).eval o).run P w = .ok .skip w' ∧ Q .normal (fillOps ops.toList u 0 a0) w') :
    ∀ (fuel : Nat) (listed : Array Bool) (u : Nat → Value) (w : World), listed.size = ops.size → listed.toList.count true + fuel = ops.size → listed.getD n false = false → (∀ j k, listed.getD j false = true → waitsFor ops j k = true → listed.getD k false = true) → Ext w0 w →
      (∀ k, listed.getD k false = true → V k (u k) w) → wpAny P .any ops Q fuel listed (fillOps ops.toList u 0 a0) w := by
  intro fuel
  induction fuel with
  | zero =>
    intro listed u w hsz hc h0 hcl hw hV
    exfalso
    have h1 : ∀ b ∈ listed.toList, true = b := List.count_eq_length.1 (by simpa [hsz] using hc)
    have hk' : n < listed.size := by omega
    rw [Array.getD_eq_getD_getElem?, Array.getElem?_eq_getElem hk'] at h0
    have := h1 listed[n] (by simp)
    simp at h0
    rw [h0] at this; cases this
  | succ fuel ih =>
    intro listed u w hsz hc hn0 hcl hw hV
    refine ⟨fun hr => ?_, fun i hi => ?_⟩
    · exfalso
      have : ∀ k, k < ops.size → listed.getD k false = true := by
        intro k
        induction k using Nat.strongRecOn with
        | ind k ihk =>
          intro hk
          cases hb : listed.getD k false with
          | true => rfl
          | false =>
            exfalso
            have hk' : k < listed.size := by omega
            have hmem : k ∈ Region.ready .any ops listed := by
              rw [mem_ready]
              refine ⟨?_, ops[k], Array.getElem?_eq_getElem hk, fun e he _ => ?_⟩
              · rw [Array.getD_eq_getD_getElem?, Array.getElem?_eq_getElem hk'] at hb ⊢
                simpa using hb
              · have := afters_at ops.toList 0 k ops[k] ha (by simp [hk]) e he
                exact ihk e.on (by omega) (by omega)
            rw [hr] at hmem
            cases hmem
      rw [this n (by omega)] at hn0
      cases hn0
    · obtain ⟨h0, o', ho', hall⟩ := mem_ready.1 hi
      have hi' : i < ops.size := (Array.getElem?_eq_some_iff.1 ho').1
      have hk' : i < listed.size := by omega
      by_cases hin : i = n
      · subst hin
        obtain rfl : o' = o := Option.some.inj (ho'.symm.trans ho)
        have hdir : ∀ k, waitsO o' k = true → listed.getD k false = true := fun k hk => by
          unfold waitsO at hk
          rw [Array.any_eq_true] at hk
          obtain ⟨q, hq, he⟩ := hk
          rw [Bool.and_eq_true] at he
          have h2 := hall _ (Array.getElem_mem hq) he.1
          rw [beq_iff_eq.1 he.2] at h2
          exact h2
        have hother : ∀ k, k < i → listed.getD k false = true := fun k hk => by
          unfold lastOk at hlast
          rw [List.all_eq_true] at hlast
          have := hlast k (by simpa using hk)
          rw [Bool.or_eq_true] at this
          rcases this with h1 | h1
          · exact hdir k h1
          · rw [List.any_eq_true] at h1
            obtain ⟨j, _, hj⟩ := h1
            rw [Bool.and_eq_true] at hj
            exact hcl j k (hdir j hj.1) hj.2
        obtain ⟨hwant, w', hrun, hQ⟩ := hE u w hw fun k hk => hV k (hother k hk)
        unfold Go.wpOp
        simp only [ho', hwant, if_true]
        left
        unfold Oper.wp
        rw [hrun]
        show wpAny P .any ops Q fuel _ _ w'
        rw [hdo]
        refine wpAny_allListed (by simpa using hsz) (fun k hk => ?_) hQ fuel
        by_cases hki : k = i
        · subst hki
          rw [Array.getD_eq_getD_getElem?, Array.getElem?_setIfInBounds_self_of_lt hk']
          rfl
        · rw [Array.getD_eq_getD_getElem?, Array.getElem?_setIfInBounds_ne (Ne.symm hki), ← Array.getD_eq_getD_getElem?]
          exact hother k (by omega)
      · have ho2 : ops.toList[i]? = some o' := by rw [Array.getElem?_toList]; exact ho'
        have ho3 : (ops.toList.take n)[i]? = some o' := by rw [List.getElem?_take, if_pos (by omega)]; exact ho2
        have hL := locals_at (ops.toList.take n) 0 i o' hl ho3
        rw [Nat.zero_add] at hL
        have hs := hL u w hw (fun k hk => by
          rw [Array.any_eq_true] at hk
          obtain ⟨q, hq, he⟩ := hk
          rw [Bool.and_eq_true] at he
          have := hall _ (Array.getElem_mem hq) he.1
          rw [beq_iff_eq.1 he.2] at this
          exact hV k this)
        refine hs.wpOp ho' fun v w' hE' hv => ?_
        rw [fill_upd u v ops.toList 0 i a0 o' hd ho2, Nat.zero_add]
        have hset : ∀ k, (listed.setIfInBounds i true).getD k false = if k = i then true else listed.getD k false := fun k => by
          by_cases hki : k = i
          · subst hki
            rw [if_pos rfl, Array.getD_eq_getD_getElem?, Array.getElem?_setIfInBounds_self_of_lt hk']
            rfl
          · rw [if_neg hki, Array.getD_eq_getD_getElem?, Array.getElem?_setIfInBounds_ne (Ne.symm hki)]
            exact (Array.getD_eq_getD_getElem? ..).symm
        have hdep : ∀ k, waitsFor ops i k = true → listed.getD k false = true := fun k hk => by
          obtain ⟨e, he, hb, rfl⟩ := waits_at ho' hk
          exact hall e he hb
        refine ih (listed.setIfInBounds i true) (upd u i v) w' (by simpa using hsz) ?_ ?_ ?_ (hw.tr hE') fun k hk => ?_
        · have hf : listed.toList[i]? = some false := by
            rw [Array.getD_eq_getD_getElem?, Array.getElem?_eq_getElem hk'] at h0
            rw [Array.getElem?_toList, Array.getElem?_eq_getElem hk']
            simpa using h0
          have := count_set listed.toList i hf
          rw [Array.toList_setIfInBounds, this]
          omega
        · rw [Array.getD_eq_getD_getElem?, Array.getElem?_setIfInBounds_ne hin, ← Array.getD_eq_getD_getElem?]
          exact hn0
        · intro j k hj hk
          rw [hset] at hj ⊢
          by_cases hki : k = i
          · rw [if_pos hki]
          · rw [if_neg hki]
            by_cases hji : j = i
            · subst hji; exact hdep k hk
            · rw [if_neg hji] at hj; exact hcl j k hj hk
        · by_cases hki : k = i
          · subst hki; rw [upd_same]; exact hv
          · rw [upd_ne hki]
            refine hst k _ w w' hw hE' (hV k ?_)
            rw [Array.getD_eq_getD_getElem?, Array.getElem?_setIfInBounds_ne (Ne.symm hki)] at hk
            rw [Array.getD_eq_getD_getElem?]
            exact hk

/-- The whole region. -/
theorem wp_region_tail {Q : Exit → Act → World → Prop} {id : Nat} {w : World} (V : Nat → Value → World → Prop) {n : Nat} {o : Oper} (hm : P.follows .mixedOrders = true) (hn : ops.size = n + 1) (ho : ops[n]? = some o) (hlast : lastOk ops o n = true) (hdo : o.dst = none)
    (hd : dstsOk (ops.toList.map (·.dst)) = true) (ha : aftersOk ops.toList 0 = true)
    (hst : ∀ k v w1 w2, Ext w w1 → Ext w1 w2 → V k v w1 → V k v w2) (hl : Locals P ops w V a0 (ops.toList.take n) 0)
    (hE : ∀ u w', Ext w w' → (∀ k, k < n → V k (u k) w') → Region.wanted o (yielded ops (fillOps ops.toList u 0 a0).tmps) = true ∧ ∃ w2, (execOp (fillOps ops.toList u 0 a0).eval o).run P w' = .ok .skip w2 ∧ Q .normal (fillOps ops.toList u 0 a0) w2) : (Code.region id ops true).wp P Q a0 w := by
  have h0 : fillOps ops.toList (fun k => ((ops.toList[k]?).bind fun o => o.dst.bind fun d => a0.tmps[d]?).getD undef) 0 a0 = a0 := by
    refine fill_id _ ops.toList 0 a0 fun j o ho => ?_
    simp only [Nat.zero_add, ho, Option.bind_some]
    cases hq : o.dst with
    | none => rfl
    | some d =>
      simp only [Act.put, Option.bind_some]
      by_cases hlt : d < a0.tmps.size
      · rw [Array.getElem?_eq_getElem hlt]
        simp [Array.setIfInBounds, hlt]
      · simp [Array.setIfInBounds, hlt]
  have hr : ∀ k, (Array.replicate ops.size false).getD k false = false := fun k => by
    rw [Array.getD_eq_getD_getElem?, Array.getElem?_replicate]
    split <;> rfl
  refine wp_region_any hm ?_
  rw [← h0]
  refine wpAny_tail (w0 := w) hn ho hlast hdo hd ha hst hl hE ops.size _ _ _ (by simp) (by simp [List.count_replicate]) (hr n) (fun j k hj => by rw [hr] at hj; cases hj) (Ext.rfl' w).dr fun k hk => ?_
  rw [hr] at hk
  cases hk
end
end Go
