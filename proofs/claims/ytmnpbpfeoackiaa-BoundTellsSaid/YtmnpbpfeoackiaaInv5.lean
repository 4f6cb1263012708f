/-
  A region that draws its order, whose first n operations only add to the world, and whose other operations come last, one behind the other: the first ones by one fact an operation, the last ones as a plain list. No order is walked.
-/
import Derived.Test.YtmnpbpfeoackiaaInv3
import Derived.StillTail
namespace Go
open Go.Proofs.Ytmnpbpfeoackiaa

section
variable {P : Program} {ops : Array Oper} {w0 : World} {V : Nat → Value → World → Prop} {a0 : Act}

/-- What is to be shown of operation i, over the frame that the operations of r0 fill. -/
def LocalR (P : Program) (ops : Array Oper) (w0 : World) (V : Nat → Value → World → Prop) (r0 : List Oper) (a0 : Act) (i : Nat) (o : Oper) : Prop :=
  ∀ (u : Nat → Value) (w : World), Ext w0 w → (∀ k, (o.after.any fun e => Region.binds .any e && e.on == k) = true → V k (u k) w) → OpLeaves P ops (V i) o (fillOps r0 u 0 a0) w
def LocalsR (P : Program) (ops : Array Oper) (w0 : World) (V : Nat → Value → World → Prop) (r0 : List Oper) (a0 : Act) : List Oper → Nat → Prop
  | [], _ => True
  | o :: r, i => LocalR P ops w0 V r0 a0 i o ∧ LocalsR P ops w0 V r0 a0 r (i + 1)
theorem localsR_nil {r0 : List Oper} {i} : LocalsR P ops w0 V r0 a0 [] i := trivial
theorem localsR_cons {r0 : List Oper} {o : Oper} {r : List Oper} {i : Nat} (h : LocalR P ops w0 V r0 a0 i o) (hr : LocalsR P ops w0 V r0 a0 r (i + 1)) : LocalsR P ops w0 V r0 a0 (o :: r) i := ⟨h, hr⟩
theorem localsR_at {r0 : List Oper} : ∀ (r : List Oper) (k i : Nat) (o : Oper), LocalsR P ops w0 V r0 a0 r k → r[i]? = some o → LocalR P ops w0 V r0 a0 (k + i) o
  | [], _, _, _, _, h => by cases h
  | o' :: r, k, 0, o, hl, h => by obtain rfl : o' = o := by simpa using h
                                  exact hl.1
  | o' :: r, k, i + 1, o, hl, h => by
    rw [show k + (i + 1) = k + 1 + i by omega]
    exact localsR_at r (k + 1) i o hl.2 (by simpa using h)

def headDone (n m : Nat) : Array Bool := Array.replicate n true ++ Array.replicate m false
theorem headDone_at (n m k : Nat) : (headDone n m)[k]? = if k < n then some true else if k < n + m then some false else none := by
  unfold headDone
  rw [Array.getElem?_append]
  simp only [Array.size_replicate, Array.getElem?_replicate]
  by_cases h1 : k < n
  · simp [h1]
  · simp only [h1, if_false]
    by_cases h2 : k < n + m
    · rw [if_pos (by omega), if_pos h2]
    · rw [if_neg (by omega), if_neg h2]

theorem wpAny_tails {Q : Exit → Act → World → Prop} {n : Nat} (hs : Region.sinkB .any ops n = true) (hc : Region.chainB .any ops n = true) (hn : n < ops.size) (hseq : Region.seqB .any ops (ops.size - n) n (headDone n (ops.size - n)) = true)
    (hd : dstsOk ((ops.toList.take n).map (·.dst)) = true) (ha : aftersOk ops.toList 0 = true)
    (hst : ∀ k v w w', Ext w0 w → Ext w w' → V k v w → V k v w') (hl : LocalsR P ops w0 V (ops.toList.take n) a0 (ops.toList.take n) 0)
    (hE : ∀ u w, Ext w0 w → (∀ k, k < n → V k (u k) w) → wpList P ops Q (ops.toList.drop n) (fillOps (ops.toList.take n) u 0 a0) w) :
    ∀ (f : Nat) (listed : Array Bool) (u : Nat → Value) (w : World), HeadInv .any ops n listed → (listed.toList.take n).count true + f = n → Ext w0 w →
      (∀ k, listed.getD k false = true → V k (u k) w) → wpAny P .any ops Q (f + (ops.size - n)) listed (fillOps (ops.toList.take n) u 0 a0) w := by
  intro f
  induction f with
  | zero =>
    intro listed u w inv hcount hw hV
    have hsz := inv.size
    have hlen : (listed.toList.take n).length = n := by rw [List.length_take, Array.length_toList]; omega
    have hall : ∀ k, k < n → listed[k]? = some true := by
      intro k hk
      have h1 : ∀ b ∈ listed.toList.take n, true = b := List.count_eq_length.1 (by rw [hlen]; omega)
      have hk' : k < listed.size := by omega
      rw [Array.getElem?_eq_getElem hk']
      congr 1
      refine (h1 _ ?_).symm
      rw [List.mem_take_iff_getElem]
      exact ⟨k, by rw [Array.length_toList]; omega, by simp⟩
    have htail : ∀ k, n ≤ k → k < ops.size → listed[k]? = some false := by
      intro k hk1 hk2
      have h0 := inv.tail k hk1 hk2
      have hk' : k < listed.size := by omega
      rw [Array.getD_eq_getD_getElem?, Array.getElem?_eq_getElem hk'] at h0
      rw [Array.getElem?_eq_getElem hk']
      simpa using h0
    have heq : listed = headDone n (ops.size - n) := by
      apply Array.ext_getElem?
      intro k
      rw [headDone_at]
      by_cases h1 : k < n
      · rw [if_pos h1]; exact hall k h1
      · rw [if_neg h1]
        by_cases h2 : k < ops.size
        · rw [if_pos (by omega)]; exact htail k (by omega) h2
        · rw [if_neg (by omega)]; exact Array.getElem?_eq_none (by omega)
    have hdl : (ops.toList.drop n).length = ops.size - n := by simp
    have H := wpAny_of_seq (P := P) (md := .any) (Q' := Q) (ops.toList.drop n) n listed (fillOps (ops.toList.take n) u 0 a0) w (fun j => by simp [List.getElem?_drop]) (by rw [hdl, heq]; exact hseq)
      (hE u w hw fun k hk => hV k (by rw [Array.getD_eq_getD_getElem?, hall k hk]; rfl))
    rw [hdl] at H
    rw [Nat.zero_add]
    exact H
  | succ f ih =>
    intro listed u w inv hcount hw hV
    have hsz := inv.size
    have hlen : (listed.toList.take n).length = n := by rw [List.length_take, Array.length_toList]; omega
    -- one of the first ones is not listed yet
    have hex : ∃ i, i < n ∧ listed.getD i true = false := by
      apply Classical.byContradiction
      intro hno
      have : ∀ b ∈ listed.toList.take n, true = b := by
        intro b hb
        obtain ⟨k, hk, rfl⟩ := List.mem_iff_getElem.1 hb
        have hk2 : k < n := by omega
        cases hq : (listed.toList.take n)[k] with
        | true => rfl
        | false =>
          exfalso
          refine hno ⟨k, hk2, ?_⟩
          have hk' : k < listed.size := by omega
          rw [Array.getD_eq_getD_getElem?, Array.getElem?_eq_getElem hk']
          simpa using hq
      have := List.count_eq_length.2 this
      omega
    obtain ⟨i0, hi0, hun0⟩ := hex
    have hlow : ∀ t, t ∈ Region.ready .any ops listed → t < n := fun t ht => by
      rcases Nat.lt_or_ge t n with h | h
      · exact h
      · exact absurd ht (tail_waits hs hc hn inv _ i0 rfl hi0 hun0 t h)
    rw [show f + 1 + (ops.size - n) = (f + (ops.size - n)) + 1 by omega]
    refine ⟨fun hr => ?_, fun i hi => ?_⟩
    · exfalso
      have : ∀ k, k < n → listed.getD k true = true := by
        intro k
        induction k using Nat.strongRecOn with
        | ind k ihk =>
          intro hk
          cases hb : listed.getD k true with
          | true => rfl
          | false =>
            exfalso
            have hmem : k ∈ Region.ready .any ops listed := by
              rw [mem_ready]
              refine ⟨hb, ops[k]'(by omega), Array.getElem?_eq_getElem (by omega), fun e he _ => ?_⟩
              have h1 := afters_at ops.toList 0 k (ops[k]'(by omega)) ha (by simp [show k < ops.size by omega]) e he
              have h2 := ihk e.on (by omega) (by omega)
              have h3 : e.on < listed.size := by omega
              rw [Array.getD_eq_getD_getElem?, Array.getElem?_eq_getElem h3] at h2 ⊢
              simpa using h2
            rw [hr] at hmem
            cases hmem
      rw [this i0 hi0] at hun0
      cases hun0
    · have hin := hlow i hi
      have inv' := inv.set hi hin
      obtain ⟨h0, o', ho', hall⟩ := mem_ready.1 hi
      have hk' : i < listed.size := by omega
      have ho3 : (ops.toList.take n)[i]? = some o' := by rw [List.getElem?_take, if_pos hin, Array.getElem?_toList]; exact ho'
      have hL := localsR_at (ops.toList.take n) 0 i o' hl ho3
      rw [Nat.zero_add] at hL
      have hss := hL u w hw (fun k hk => by
        rw [Array.any_eq_true] at hk
        obtain ⟨q, hq, he⟩ := hk
        rw [Bool.and_eq_true] at he
        have := hall _ (Array.getElem_mem hq) he.1
        rw [beq_iff_eq.1 he.2] at this
        exact hV k this)
      refine hss.wpOp ho' fun v w' hE' hv => ?_
      rw [fill_upd u v (ops.toList.take n) 0 i a0 o' hd ho3, Nat.zero_add]
      refine ih (listed.setIfInBounds i true) (upd u i v) w' inv' ?_ (hw.tr hE') fun k hk => ?_
      · have hf : (listed.toList.take n)[i]? = some false := by
          rw [Array.getD_eq_getD_getElem?, Array.getElem?_eq_getElem hk'] at h0
          rw [List.getElem?_take, if_pos hin, Array.getElem?_toList, Array.getElem?_eq_getElem hk']
          simpa using h0
        have := count_set (listed.toList.take n) i hf
        rw [Array.toList_setIfInBounds, List.take_set, this]
        omega
      · by_cases hki : k = i
        · subst hki; rw [upd_same]; exact hv
        · rw [upd_ne hki]
          refine hst k _ w w' hw hE' (hV k ?_)
          rw [Array.getD_eq_getD_getElem?, Array.getElem?_setIfInBounds_ne (Ne.symm hki)] at hk
          rw [Array.getD_eq_getD_getElem?]
          exact hk

/-- The whole region. -/
theorem wp_region_tails {Q : Exit → Act → World → Prop} {id : Nat} {w : World} (V : Nat → Value → World → Prop) (n : Nat) (hm : P.follows .mixedOrders = true)
    (hs : Region.sinkB .any ops n = true) (hc : Region.chainB .any ops n = true) (hn : n < ops.size) (hseq : Region.seqB .any ops (ops.size - n) n (headDone n (ops.size - n)) = true)
    (hd : dstsOk ((ops.toList.take n).map (·.dst)) = true) (ha : aftersOk ops.toList 0 = true)
    (hst : ∀ k v w1 w2, Ext w w1 → Ext w1 w2 → V k v w1 → V k v w2) (hl : LocalsR P ops w V (ops.toList.take n) a0 (ops.toList.take n) 0)
    (hE : ∀ u w', Ext w w' → (∀ k, k < n → V k (u k) w') → wpList P ops Q (ops.toList.drop n) (fillOps (ops.toList.take n) u 0 a0) w') : (Code.region id ops true).wp P Q a0 w := by
  have h0 : fillOps (ops.toList.take n) (fun k => (((ops.toList.take n)[k]?).bind fun o => o.dst.bind fun d => a0.tmps[d]?).getD undef) 0 a0 = a0 := by
    refine fill_id _ (ops.toList.take n) 0 a0 fun j o ho => ?_
    simp only [Nat.zero_add, ho, Option.bind_some]
    cases hq : o.dst with
    | none => rfl
    | some d =>
      simp only [Act.put, Option.bind_some]
      by_cases hlt : d < a0.tmps.size
      · rw [Array.getElem?_eq_getElem hlt]
        simp [Array.setIfInBounds, hlt]
      · simp [Array.setIfInBounds, hlt]
  have hr : ∀ k, (Array.replicate ops.size false).getD k false = false := fun k => getD_replicate_false _ _
  refine wp_region_any hm ?_
  have inv0 : HeadInv .any ops n (Array.replicate ops.size false) :=
    ⟨by simp, fun j oj _ hl => (by rw [hr] at hl; cases hl), fun t _ ht => getD_in (by simpa using ht) (hr _)⟩
  have H := wpAny_tails (Q := Q) (w0 := w) hs hc hn hseq hd ha hst hl hE n (Array.replicate ops.size false) (fun k => (((ops.toList.take n)[k]?).bind fun o => o.dst.bind fun d => a0.tmps[d]?).getD undef) w.drew inv0
    (by simp [List.take_replicate, List.count_replicate]) (Ext.rfl' w).dr fun k hk => by rw [hr] at hk; cases hk
  rw [h0, show n + (ops.size - n) = ops.size by omega] at H
  exact H
end
end Go
