/-
  A region that draws its order, where some of the first n operations (cs) turn what the region itself has made (an append in place), and whose other operations come last, one behind the other: the first ones by one local fact an operation, the last ones as a plain list. No order is walked.
-/
import Derived.Test.YtmnpbpfeoackiaaDoorInvS
import Derived.Test.YtmnpbpfeoackiaaDoorInv5
namespace Go
open Go.Proofs.YtmnpbpfeoackiaaDoor Go.RowKit
section
variable {P : Program} {ops : Array Oper} {J : List Bool → World → Prop} {V : List Bool → Nat → Value → World → Prop} {a0 : Act} {cs : List Nat} {r0 : List Oper}

/-- What is to be shown of an ordinary operation, over the frame that the operations of r0 fill. -/
def LocalT (P : Program) (ops : Array Oper) (J : List Bool → World → Prop) (V : List Bool → Nat → Value → World → Prop) (cs : List Nat) (r0 : List Oper) (a0 : Act) (i : Nat) (o : Oper) : Prop :=
  (i ∉ cs → ∀ (bs : List Bool) (u : Nat → Value) (w : World), bs.length = cs.length → J bs w → (∀ (p c : Nat) (oc : Oper), bs[p]? = some true → cs[p]? = some c → ops[c]? = some oc → (oc.after.any fun e => Region.binds .any e && e.on == i) = false) → (∀ k, (o.after.any fun e => Region.binds .any e && e.on == k) = true → V bs k (u k) w) → OpLeaves P ops (V bs i) o (fillOps r0 u 0 a0) w) ∧
  (∀ (p : Nat), cs[p]? = some i → ∀ (bs : List Bool) (u : Nat → Value) (w : World), bs.length = cs.length → bs[p]? = some false → J bs w → (∀ k, (o.after.any fun e => Region.binds .any e && e.on == k) = true → V bs k (u k) w) →
    (∀ (q j : Nat), bs[q]? = some true → cs[q]? = some j → V bs j (u j) w) →
    Region.wanted o (yielded ops (fillOps r0 u 0 a0).tmps) = true ∧ ∀ (K : Act → World → Prop) (Q : Exit → Act → World → Prop),
      (∀ v w', J (bs.set p true) w' → V (bs.set p true) i v w' → (∀ k, V bs k (u k) w → V (bs.set p true) k (u k) w') → K ((fillOps r0 u 0 a0).put o.dst v) w') → o.wp P (fillOps r0 u 0 a0) w K Q)
def LocalsT (P : Program) (ops : Array Oper) (J : List Bool → World → Prop) (V : List Bool → Nat → Value → World → Prop) (cs : List Nat) (r0 : List Oper) (a0 : Act) : List Oper → Nat → Prop
  | [], _ => True
  | o :: r, i => LocalT P ops J V cs r0 a0 i o ∧ LocalsT P ops J V cs r0 a0 r (i + 1)
theorem localsT_nil {i} : LocalsT P ops J V cs r0 a0 [] i := trivial
/-- An ordinary operation. -/
theorem localsT_ord {o : Oper} {r : List Oper} {i : Nat} (hi : i ∉ cs)
    (h : ∀ (bs : List Bool) (u : Nat → Value) (w : World), bs.length = cs.length → J bs w → (∀ (p c : Nat) (oc : Oper), bs[p]? = some true → cs[p]? = some c → ops[c]? = some oc → (oc.after.any fun e => Region.binds .any e && e.on == i) = false) → (∀ k, (o.after.any fun e => Region.binds .any e && e.on == k) = true → V bs k (u k) w) → OpLeaves P ops (V bs i) o (fillOps r0 u 0 a0) w)
    (hr : LocalsT P ops J V cs r0 a0 r (i + 1)) : LocalsT P ops J V cs r0 a0 (o :: r) i :=
  ⟨⟨fun _ => h, fun _ hp => absurd (List.mem_of_getElem? hp) hi⟩, hr⟩
/-- One of cs: the p-th. -/
theorem localsT_turn {o : Oper} {r : List Oper} {i : Nat} (p : Nat) (hp : cs[p]? = some i) (hu : ∀ (q : Nat), cs[q]? = some i → q = p)
    (h : ∀ (bs : List Bool) (u : Nat → Value) (w : World), bs.length = cs.length → bs[p]? = some false → J bs w → (∀ k, (o.after.any fun e => Region.binds .any e && e.on == k) = true → V bs k (u k) w) →
      (∀ (q j : Nat), bs[q]? = some true → cs[q]? = some j → V bs j (u j) w) →
      Region.wanted o (yielded ops (fillOps r0 u 0 a0).tmps) = true ∧ ∀ (K : Act → World → Prop) (Q : Exit → Act → World → Prop),
        (∀ v w', J (bs.set p true) w' → V (bs.set p true) i v w' → (∀ k, V bs k (u k) w → V (bs.set p true) k (u k) w') → K ((fillOps r0 u 0 a0).put o.dst v) w') → o.wp P (fillOps r0 u 0 a0) w K Q)
    (hr : LocalsT P ops J V cs r0 a0 r (i + 1)) : LocalsT P ops J V cs r0 a0 (o :: r) i :=
  ⟨⟨fun hn => absurd (List.mem_of_getElem? hp) hn, fun q hq => by obtain rfl := hu q hq; exact h⟩, hr⟩
theorem localsT_at : ∀ (r : List Oper) (k i : Nat) (o : Oper), LocalsT P ops J V cs r0 a0 r k → r[i]? = some o → LocalT P ops J V cs r0 a0 (k + i) o
  | [], _, _, _, _, h => by cases h
  | o' :: r, k, 0, o, hl, h => by obtain rfl : o' = o := by simpa using h
                                  exact hl.1
  | o' :: r, k, i + 1, o, hl, h => by
    rw [show k + (i + 1) = k + 1 + i by omega]
    exact localsT_at r (k + 1) i o hl.2 (by simpa using h)

theorem wpAny_stages {Q : Exit → Act → World → Prop} {n : Nat} (hs : Region.sinkB .any ops n = true) (hc : Region.chainB .any ops n = true) (hn : n < ops.size) (hseq : Region.seqB .any ops (ops.size - n) n (headDone n (ops.size - n)) = true)
    (hcs : ∀ (p q i : Nat), cs[p]? = some i → cs[q]? = some i → q = p) (hin : ∀ c ∈ cs, c < n)
    (hd : dstsOk ((ops.toList.take n).map (·.dst)) = true) (ha : aftersOkB ops.toList 0 = true)
    (hJ : ∀ (bs : List Bool) w w', J bs w → Ext w w' → J bs w') (hst : ∀ (bs : List Bool) (k : Nat) v w w', J bs w → Ext w w' → V bs k v w → V bs k v w') (hl : LocalsT P ops J V cs (ops.toList.take n) a0 (ops.toList.take n) 0)
    (hE : ∀ u w, J (cs.map fun _ => true) w → (∀ k, k < n → V (cs.map fun _ => true) k (u k) w) → wpList P ops Q (ops.toList.drop n) (fillOps (ops.toList.take n) u 0 a0) w) :
    ∀ (f : Nat) (listed : Array Bool) (u : Nat → Value) (w : World), HeadInv .any ops n listed → (listed.toList.take n).count true + f = n → J (stage cs listed) w →
      (∀ k, listed.getD k false = true → V (stage cs listed) k (u k) w) → wpAny P .any ops Q (f + (ops.size - n)) listed (fillOps (ops.toList.take n) u 0 a0) w := by
  intro f
  induction f with
  | zero =>
    intro listed u w inv hcount hw hV
    have hsz := inv.size
    have hlen : (listed.toList.take n).length = n := by rw [List.length_take, Array.length_toList]; omega
    have hall : ∀ k, k < n → listed[k]? = some true := by
      intro k hk
      have h1 : ∀ b ∈ listed.toList.take n, true = b := List.count_eq_length.1 (by rw [hlen]; omega)
      have hk' : k < listed.size := by omega
      rw [Array.getElem?_eq_getElem hk']
      congr 1
      refine (h1 _ ?_).symm
      rw [List.mem_take_iff_getElem]
      exact ⟨k, by rw [Array.length_toList]; omega, by simp⟩
    have htail : ∀ k, n ≤ k → k < ops.size → listed[k]? = some false := by
      intro k hk1 hk2
      have h0 := inv.tail k hk1 hk2
      have hk' : k < listed.size := by omega
      rw [Array.getD_eq_getD_getElem?, Array.getElem?_eq_getElem hk'] at h0
      rw [Array.getElem?_eq_getElem hk']
      simpa using h0
    have heq : listed = headDone n (ops.size - n) := by
      apply Array.ext_getElem?
      intro k
      rw [headDone_at]
      by_cases h1 : k < n
      · rw [if_pos h1]; exact hall k h1
      · rw [if_neg h1]
        by_cases h2 : k < ops.size
        · rw [if_pos (by omega)]; exact htail k (by omega) h2
        · rw [if_neg (by omega)]; exact Array.getElem?_eq_none (by omega)
    have hdone : stage cs listed = cs.map fun _ => true :=
      List.map_congr_left fun c hcm => by rw [Array.getD_eq_getD_getElem?, hall c (hin c hcm)]; rfl
    have hdl : (ops.toList.drop n).length = ops.size - n := by simp
    have H := wpAny_of_seq (P := P) (md := .any) (Q' := Q) (ops.toList.drop n) n listed (fillOps (ops.toList.take n) u 0 a0) w (fun j => by simp [List.getElem?_drop]) (by rw [hdl, heq]; exact hseq)
      (hE u w (by rw [← hdone]; exact hw) fun k hk => by rw [← hdone]; exact hV k (by rw [Array.getD_eq_getD_getElem?, hall k hk]; rfl))
    rw [hdl] at H
    rw [Nat.zero_add]
    exact H
  | succ f ih =>
    intro listed u w inv hcount hw hV
    have hsz := inv.size
    have hlen : (listed.toList.take n).length = n := by rw [List.length_take, Array.length_toList]; omega
    have hex : ∃ i, i < n ∧ listed.getD i true = false := by
      apply Classical.byContradiction
      intro hno
      have : ∀ b ∈ listed.toList.take n, true = b := by
        intro b hb
        obtain ⟨k, hk, rfl⟩ := List.mem_iff_getElem.1 hb
        have hk2 : k < n := by omega
        cases hq : (listed.toList.take n)[k] with
        | true => rfl
        | false =>
          exfalso
          refine hno ⟨k, hk2, ?_⟩
          have hk' : k < listed.size := by omega
          rw [Array.getD_eq_getD_getElem?, Array.getElem?_eq_getElem hk']
          simpa using hq
      have := List.count_eq_length.2 this
      omega
    obtain ⟨i0, hi0, hun0⟩ := hex
    have hlow : ∀ t, t ∈ Region.ready .any ops listed → t < n := fun t ht => by
      rcases Nat.lt_or_ge t n with h | h
      · exact h
      · exact absurd ht (tail_waits hs hc hn inv _ i0 rfl hi0 hun0 t h)
    rw [show f + 1 + (ops.size - n) = (f + (ops.size - n)) + 1 by omega]
    refine ⟨fun hr => ?_, fun i hi => ?_⟩
    · exfalso
      have : ∀ k, k < n → listed.getD k true = true := by
        intro k
        induction k using Nat.strongRecOn with
        | ind k ihk =>
          intro hk
          cases hb : listed.getD k true with
          | true => rfl
          | false =>
            exfalso
            have hmem : k ∈ Region.ready .any ops listed := by
              rw [mem_ready]
              refine ⟨hb, ops[k]'(by omega), Array.getElem?_eq_getElem (by omega), fun e he hbd => ?_⟩
              have h1 := aftersB_at ops.toList 0 k (ops[k]'(by omega)) ha (by simp [show k < ops.size by omega]) e he hbd
              have h2 := ihk e.on (by omega) (by omega)
              have h3 : e.on < listed.size := by omega
              rw [Array.getD_eq_getD_getElem?, Array.getElem?_eq_getElem h3] at h2 ⊢
              simpa using h2
            rw [hr] at hmem
            cases hmem
      rw [this i0 hi0] at hun0
      cases hun0
    · have hil := hlow i hi
      have inv' := inv.set hi hil
      obtain ⟨h0, o', ho', hall⟩ := mem_ready.1 hi
      have hk' : i < listed.size := by omega
      have ho3 : (ops.toList.take n)[i]? = some o' := by rw [List.getElem?_take, if_pos hil, Array.getElem?_toList]; exact ho'
      have hL := localsT_at (ops.toList.take n) 0 i o' hl ho3
      rw [Nat.zero_add] at hL
      have haft : ∀ k, (o'.after.any fun e => Region.binds .any e && e.on == k) = true → V (stage cs listed) k (u k) w := fun k hk => by
        rw [Array.any_eq_true] at hk
        obtain ⟨q, hq, he⟩ := hk
        rw [Bool.and_eq_true] at he
        have := hall _ (Array.getElem_mem hq) he.1
        rw [beq_iff_eq.1 he.2] at this
        exact hV k this
      have hf : (listed.toList.take n)[i]? = some false := by
        rw [Array.getD_eq_getD_getElem?, Array.getElem?_eq_getElem hk'] at h0
        rw [List.getElem?_take, if_pos hil, Array.getElem?_toList, Array.getElem?_eq_getElem hk']
        simpa using h0
      have hcnt : ((listed.setIfInBounds i true).toList.take n).count true + f = n := by
        have := count_set (listed.toList.take n) i hf
        rw [Array.toList_setIfInBounds, List.take_set, this]
        omega
      have hother : ∀ k, k ≠ i → (listed.setIfInBounds i true).getD k false = true → listed.getD k false = true := fun k hki hk => by
        rw [Array.getD_eq_getD_getElem?, Array.getElem?_setIfInBounds_ne (Ne.symm hki)] at hk
        rw [Array.getD_eq_getD_getElem?]
        exact hk
      have hlenS : (stage cs listed).length = cs.length := List.length_map ..
      have hun : listed.getD i false = false := getD_both h0
      have hno : ∀ (p c : Nat) (oc : Oper), (stage cs listed)[p]? = some true → cs[p]? = some c → ops[c]? = some oc → (oc.after.any fun e => Region.binds .any e && e.on == i) = false := fun p c oc hp hcp hoc => by
        unfold stage at hp
        rw [List.getElem?_map, hcp] at hp
        have hlc : listed.getD c false = true := by simpa using hp
        cases hany : (oc.after.any fun e => Region.binds .any e && e.on == i) with
        | false => rfl
        | true =>
          rw [Array.any_eq_true] at hany
          obtain ⟨q, hq, he⟩ := hany
          rw [Bool.and_eq_true] at he
          have h7 := inv.closed c oc hoc hlc _ (Array.getElem_mem hq) he.1
          rw [beq_iff_eq.1 he.2, hun] at h7
          cases h7
      by_cases hmem : i ∈ cs
      · obtain ⟨p, hp⟩ := List.mem_iff_getElem?.1 hmem
        have hpu : ∀ (q : Nat), cs[q]? = some i → q = p := fun q hq => hcs p q i hp hq
        have hbp : (stage cs listed)[p]? = some false := by
          unfold stage
          rw [List.getElem?_map, hp]
          have h00 : listed.getD i false = false := by
            rw [Array.getD_eq_getD_getElem?, Array.getElem?_eq_getElem hk'] at h0 ⊢
            simpa using h0
          simpa using h00
        obtain ⟨hwant, hstep⟩ := hL.2 p hp (stage cs listed) u w hlenS hbp hw haft (fun q j hq hj => by
          refine hV j ?_
          unfold stage at hq
          rw [List.getElem?_map, hj] at hq
          simpa using hq)
        unfold Go.wpOp
        simp only [ho']
        rw [if_pos hwant]
        refine .inl (hstep _ _ fun v w' hJ' hv hkeep => ?_)
        rw [fill_upd u v (ops.toList.take n) 0 i a0 o' hd ho3, Nat.zero_add]
        refine ih (listed.setIfInBounds i true) (upd u i v) w' inv' hcnt (by rw [stage_turn hk' hp hpu]; exact hJ') fun k hk => ?_
        rw [stage_turn hk' hp hpu]
        by_cases hki : k = i
        · subst hki; rw [upd_same]; exact hv
        · rw [upd_ne hki]
          exact hkeep k (hV k (hother k hki hk))
      · have hss := hL.1 hmem (stage cs listed) u w hlenS hw hno haft
        refine hss.wpOp ho' fun v w' hE' hv => ?_
        rw [fill_upd u v (ops.toList.take n) 0 i a0 o' hd ho3, Nat.zero_add]
        refine ih (listed.setIfInBounds i true) (upd u i v) w' inv' hcnt (by rw [stage_other hmem]; exact hJ _ w w' hw hE') fun k hk => ?_
        rw [stage_other hmem]
        by_cases hki : k = i
        · subst hki; rw [upd_same]; exact hv
        · rw [upd_ne hki]
          exact hst _ k _ w w' hw hE' (hV k (hother k hki hk))

/-- The whole region. -/
theorem wp_region_stages {Q : Exit → Act → World → Prop} {id : Nat} {w : World} (cs : List Nat) (J : List Bool → World → Prop) (V : List Bool → Nat → Value → World → Prop) (n : Nat) (hcs : ∀ (p q i : Nat), cs[p]? = some i → cs[q]? = some i → q = p) (hin : ∀ c ∈ cs, c < n) (hm : P.follows .mixedOrders = true)
    (hs : Region.sinkB .any ops n = true) (hc : Region.chainB .any ops n = true) (hn : n < ops.size) (hseq : Region.seqB .any ops (ops.size - n) n (headDone n (ops.size - n)) = true)
    (hd : dstsOk ((ops.toList.take n).map (·.dst)) = true) (ha : aftersOkB ops.toList 0 = true)
    (h00 : J (cs.map fun _ => false) w.drew) (hJ : ∀ (bs : List Bool) w1 w2, J bs w1 → Ext w1 w2 → J bs w2)
    (hst : ∀ (bs : List Bool) (k : Nat) v w1 w2, J bs w1 → Ext w1 w2 → V bs k v w1 → V bs k v w2) (hl : LocalsT P ops J V cs (ops.toList.take n) a0 (ops.toList.take n) 0)
    (hE : ∀ u w', J (cs.map fun _ => true) w' → (∀ k, k < n → V (cs.map fun _ => true) k (u k) w') → wpList P ops Q (ops.toList.drop n) (fillOps (ops.toList.take n) u 0 a0) w') : (Code.region id ops true).wp P Q a0 w := by
  have h0 : fillOps (ops.toList.take n) (fun k => (((ops.toList.take n)[k]?).bind fun o => o.dst.bind fun d => a0.tmps[d]?).getD undef) 0 a0 = a0 := by
    refine fill_id _ (ops.toList.take n) 0 a0 fun j o ho => ?_
    simp only [Nat.zero_add, ho, Option.bind_some]
    cases hq : o.dst with
    | none => rfl
    | some d =>
      simp only [Act.put, Option.bind_some]
      by_cases hlt : d < a0.tmps.size
      · rw [Array.getElem?_eq_getElem hlt]
        simp [Array.setIfInBounds, hlt]
      · simp [Array.setIfInBounds, hlt]
  have hr : ∀ k, (Array.replicate ops.size false).getD k false = false := fun k => getD_replicate_false _ _
  refine wp_region_any hm ?_
  have inv0 : HeadInv .any ops n (Array.replicate ops.size false) :=
    ⟨by simp, fun j oj _ hl => (by rw [hr] at hl; cases hl), fun t _ ht => getD_in (by simpa using ht) (hr _)⟩
  have H := wpAny_stages (Q := Q) hs hc hn hseq hcs hin hd ha hJ hst hl hE n (Array.replicate ops.size false) (fun k => (((ops.toList.take n)[k]?).bind fun o => o.dst.bind fun d => a0.tmps[d]?).getD undef) w.drew inv0
    (by simp [List.take_replicate, List.count_replicate]) (by rw [show stage cs (Array.replicate ops.size false) = cs.map fun _ => false from List.map_congr_left fun c _ => getD_rep ops.size c]; exact h00) fun k hk => by rw [hr] at hk; cases hk
  rw [h0, show n + (ops.size - n) = ops.size by omega] at H
  exact H
end
end Go
