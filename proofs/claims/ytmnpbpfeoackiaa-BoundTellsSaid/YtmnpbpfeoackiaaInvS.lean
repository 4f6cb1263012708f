/-
  A region that draws its order, where some operations (cs) turn what the region itself has made (an append in place, a store): what is said of each value may hang on which of cs have run. One local fact an operation; no order is walked.
-/
import Derived.Test.YtmnpbpfeoackiaaInv2
namespace Go
open Go.Proofs.Ytmnpbpfeoackiaa Go.RowKit
section
variable {P : Program} {ops : Array Oper} {J : List Bool → World → Prop} {V : List Bool → Nat → Value → World → Prop} {a0 : Act} {cs : List Nat}

/-- Each operation waits, as far as any order binds it, for earlier ones alone. -/
def aftersOkB : List Oper → Nat → Bool
  | [], _ => true
  | o :: r, k => o.after.all (fun e => !Region.binds .any e || decide (e.on < k)) && aftersOkB r (k + 1)
theorem aftersB_at : ∀ (r : List Oper) (k i : Nat) (o : Oper), aftersOkB r k = true → r[i]? = some o → ∀ e ∈ o.after, Region.binds .any e = true → e.on < k + i
  | [], _, _, _, _, h, _, _, _ => by cases h
  | o' :: r, k, 0, o, ha, h, e, he, hb => by
    obtain rfl : o' = o := by simpa using h
    simp only [aftersOkB, Bool.and_eq_true] at ha
    have := Array.all_eq_true_iff_forall_mem.1 ha.1 e he
    simpa [hb] using this
  | o' :: r, k, i + 1, o, ha, h, e, he, hb => by
    simp only [aftersOkB, Bool.and_eq_true] at ha
    have := aftersB_at r (k + 1) i o ha.2 (by simpa using h) e he hb
    omega

/-- What is to be shown of an ordinary operation. -/
def LocalQ (P : Program) (ops : Array Oper) (J : List Bool → World → Prop) (V : List Bool → Nat → Value → World → Prop) (cs : List Nat) (a0 : Act) (i : Nat) (o : Oper) : Prop :=
  (i ∉ cs → ∀ (bs : List Bool) (u : Nat → Value) (w : World), bs.length = cs.length → J bs w → (∀ (p c : Nat) (oc : Oper), bs[p]? = some true → cs[p]? = some c → ops[c]? = some oc → (oc.after.any fun e => Region.binds .any e && e.on == i) = false) → (∀ k, (o.after.any fun e => Region.binds .any e && e.on == k) = true → V bs k (u k) w) → OpLeaves P ops (V bs i) o (fillOps ops.toList u 0 a0) w) ∧
  (∀ (p : Nat), cs[p]? = some i → ∀ (bs : List Bool) (u : Nat → Value) (w : World), bs.length = cs.length → bs[p]? = some false → J bs w → (∀ k, (o.after.any fun e => Region.binds .any e && e.on == k) = true → V bs k (u k) w) →
    (∀ (q j : Nat), bs[q]? = some true → cs[q]? = some j → V bs j (u j) w) →
    Region.wanted o (yielded ops (fillOps ops.toList u 0 a0).tmps) = true ∧ ∀ (K : Act → World → Prop) (Q : Exit → Act → World → Prop),
      (∀ v w', J (bs.set p true) w' → V (bs.set p true) i v w' → (∀ k, V bs k (u k) w → V (bs.set p true) k (u k) w') → K ((fillOps ops.toList u 0 a0).put o.dst v) w') → o.wp P (fillOps ops.toList u 0 a0) w K Q)
def LocalsQ (P : Program) (ops : Array Oper) (J : List Bool → World → Prop) (V : List Bool → Nat → Value → World → Prop) (cs : List Nat) (a0 : Act) : List Oper → Nat → Prop
  | [], _ => True
  | o :: r, i => LocalQ P ops J V cs a0 i o ∧ LocalsQ P ops J V cs a0 r (i + 1)
theorem localsQ_nil {i} : LocalsQ P ops J V cs a0 [] i := trivial
theorem localsQ_cons {o : Oper} {r : List Oper} {i : Nat} (h : LocalQ P ops J V cs a0 i o) (hr : LocalsQ P ops J V cs a0 r (i + 1)) : LocalsQ P ops J V cs a0 (o :: r) i := ⟨h, hr⟩
/-- An ordinary operation. -/
theorem localsQ_ord {o : Oper} {r : List Oper} {i : Nat} (hi : i ∉ cs)
    (h : ∀ (bs : List Bool) (u : Nat → Value) (w : World), bs.length = cs.length → J bs w → (∀ (p c : Nat) (oc : Oper), bs[p]? = some true → cs[p]? = some c → ops[c]? = some oc → (oc.after.any fun e => Region.binds .any e && e.on == i) = false) → (∀ k, (o.after.any fun e => Region.binds .any e && e.on == k) = true → V bs k (u k) w) → OpLeaves P ops (V bs i) o (fillOps ops.toList u 0 a0) w)
    (hr : LocalsQ P ops J V cs a0 r (i + 1)) : LocalsQ P ops J V cs a0 (o :: r) i :=
  ⟨⟨fun _ => h, fun _ hp => absurd (List.mem_of_getElem? hp) hi⟩, hr⟩
/-- One of cs: the p-th. -/
theorem localsQ_turn {o : Oper} {r : List Oper} {i : Nat} (p : Nat) (hp : cs[p]? = some i) (hu : ∀ (q : Nat), cs[q]? = some i → q = p)
    (h : ∀ (bs : List Bool) (u : Nat → Value) (w : World), bs.length = cs.length → bs[p]? = some false → J bs w → (∀ k, (o.after.any fun e => Region.binds .any e && e.on == k) = true → V bs k (u k) w) →
      (∀ (q j : Nat), bs[q]? = some true → cs[q]? = some j → V bs j (u j) w) →
      Region.wanted o (yielded ops (fillOps ops.toList u 0 a0).tmps) = true ∧ ∀ (K : Act → World → Prop) (Q : Exit → Act → World → Prop),
        (∀ v w', J (bs.set p true) w' → V (bs.set p true) i v w' → (∀ k, V bs k (u k) w → V (bs.set p true) k (u k) w') → K ((fillOps ops.toList u 0 a0).put o.dst v) w') → o.wp P (fillOps ops.toList u 0 a0) w K Q)
    (hr : LocalsQ P ops J V cs a0 r (i + 1)) : LocalsQ P ops J V cs a0 (o :: r) i :=
  ⟨⟨fun hn => absurd (List.mem_of_getElem? hp) hn, fun q hq => by obtain rfl := hu q hq; exact h⟩, hr⟩
theorem localsQ_at : ∀ (r : List Oper) (k i : Nat) (o : Oper), LocalsQ P ops J V cs a0 r k → r[i]? = some o → LocalQ P ops J V cs a0 (k + i) o
  | [], _, _, _, _, h => by cases h
  | o' :: r, k, 0, o, hl, h => by obtain rfl : o' = o := by simpa using h
                                  exact hl.1
  | o' :: r, k, i + 1, o, hl, h => by
    rw [show k + (i + 1) = k + 1 + i by omega]
    exact localsQ_at r (k + 1) i o hl.2 (by simpa using h)

theorem cs_inj {cs : List Nat} (h : cs.Nodup) (p q i : Nat) (hp : cs[p]? = some i) (hq : cs[q]? = some i) : q = p :=
  (List.getElem?_inj (List.getElem?_eq_some_iff.1 hq).1 h).1 (hq.trans hp.symm)
theorem bs_one {bs : List Bool} (h : bs.length = 1) (h0 : bs[0]? = some false) : bs = [false] := by
  match bs, h with
  | [b], _ => simpa using h0
/-- A store as one of cs. -/
theorem turn_skip {o : Oper} {a : Act} {w w' : World} {K : Act → World → Prop} {Q : Exit → Act → World → Prop} (hr : (execOp a.eval o).run P w = .ok .skip w') (h : K (a.put o.dst undef) w') : o.wp P a w K Q := by
  unfold Oper.wp
  rw [hr]
  exact h
theorem getD_rep (n c : Nat) : (Array.replicate n false).getD c false = false := by
  rw [Array.getD_eq_getD_getElem?, Array.getElem?_replicate]; split <;> rfl
/-- Which of cs are listed. -/
def stage (cs : List Nat) (listed : Array Bool) : List Bool := cs.map fun c => listed.getD c false
theorem stage_other {listed : Array Bool} {i : Nat} (hi : i ∉ cs) : stage cs (listed.setIfInBounds i true) = stage cs listed := by
  refine List.map_congr_left fun c hc => ?_
  have hne : i ≠ c := fun h => hi (h ▸ hc)
  rw [Array.getD_eq_getD_getElem?, Array.getElem?_setIfInBounds_ne hne, ← Array.getD_eq_getD_getElem?]
theorem stage_turn {listed : Array Bool} {i p : Nat} (hs : i < listed.size) (hp : cs[p]? = some i) (hu : ∀ (q : Nat), cs[q]? = some i → q = p) : stage cs (listed.setIfInBounds i true) = (stage cs listed).set p true := by
  apply List.ext_getElem?
  intro q
  by_cases hq : q = p
  · subst hq
    rw [List.getElem?_set_self (by rw [stage, List.length_map]; exact (List.getElem?_eq_some_iff.1 hp).1)]
    unfold stage
    rw [List.getElem?_map, hp]
    simp [Array.getD_eq_getD_getElem?, Array.getElem?_setIfInBounds, hs]
  · rw [List.getElem?_set_ne (fun h => hq h.symm)]
    unfold stage
    rw [List.getElem?_map, List.getElem?_map]
    cases hc : cs[q]? with
    | none => rfl
    | some c =>
      have hne : i ≠ c := fun h => hq (hu q (h ▸ hc))
      simp only [Option.map_some]
      rw [Array.getD_eq_getD_getElem?, Array.getElem?_setIfInBounds_ne hne, ← Array.getD_eq_getD_getElem?]

theorem wpAny_stage {Q : Exit → Act → World → Prop} (hcs : ∀ (p q i : Nat), cs[p]? = some i → cs[q]? = some i → q = p) (hd : dstsOk (ops.toList.map (·.dst)) = true) (ha : aftersOkB ops.toList 0 = true)
    (hJ : ∀ (bs : List Bool) w w', J bs w → Ext w w' → J bs w') (hst : ∀ (bs : List Bool) (k : Nat) v w w', J bs w → Ext w w' → V bs k v w → V bs k v w') (hl : LocalsQ P ops J V cs a0 ops.toList 0)
    (hE : ∀ u w, J (cs.map fun _ => true) w → (∀ k, k < ops.size → V (cs.map fun _ => true) k (u k) w) → Q .normal (fillOps ops.toList u 0 a0) w) (hin : ∀ c ∈ cs, c < ops.size) :
    ∀ (fuel : Nat) (listed : Array Bool) (u : Nat → Value) (w : World), listed.size = ops.size → listed.toList.count true + fuel = ops.size → J (stage cs listed) w →
      (∀ (k : Nat) (ok : Oper), ops[k]? = some ok → listed.getD k false = true → ∀ e ∈ ok.after, Region.binds .any e = true → listed.getD e.on false = true) →
      (∀ k, listed.getD k false = true → V (stage cs listed) k (u k) w) → wpAny P .any ops Q fuel listed (fillOps ops.toList u 0 a0) w := by
  have hdone : ∀ (listed : Array Bool), (∀ k, k < ops.size → listed.getD k false = true) → stage cs listed = cs.map fun _ => true :=
    fun listed h => List.map_congr_left fun c hc => h c (hin c hc)
  intro fuel
  induction fuel with
  | zero =>
    intro listed u w hsz hc hw hord hV
    have hall : ∀ k, k < ops.size → listed.getD k false = true := by
      intro k hk
      have h1 : ∀ b ∈ listed.toList, true = b := List.count_eq_length.1 (by simpa [hsz] using hc)
      have hk' : k < listed.size := by omega
      rw [Array.getD_eq_getD_getElem?, Array.getElem?_eq_getElem hk']
      exact (h1 _ (by simp)).symm
    refine ⟨?_, hE u w (by rw [← hdone listed hall]; exact hw) fun k hk => by rw [← hdone listed hall]; exact hV k (hall k hk)⟩
    rw [List.eq_nil_iff_forall_not_mem]
    intro j hj
    obtain ⟨h0, o, ho, _⟩ := mem_ready.1 hj
    have hj' : j < ops.size := (Array.getElem?_eq_some_iff.1 ho).1
    have := hall j hj'
    have hk' : j < listed.size := by omega
    rw [Array.getD_eq_getD_getElem?, Array.getElem?_eq_getElem hk'] at this h0
    simp at this h0
    rw [this] at h0; cases h0
  | succ fuel ih =>
    intro listed u w hsz hc hw hord hV
    refine ⟨fun hr => ?_, fun i hi => ?_⟩
    · have hall : ∀ k, k < ops.size → listed.getD k false = true := by
        intro k
        induction k using Nat.strongRecOn with
        | ind k ihk =>
          intro hk
          cases hb : listed.getD k false with
          | true => rfl
          | false =>
            exfalso
            have hk' : k < listed.size := by omega
            have hmem : k ∈ Region.ready .any ops listed := by
              rw [mem_ready]
              refine ⟨?_, ops[k], Array.getElem?_eq_getElem hk, fun e he hbd => ?_⟩
              · rw [Array.getD_eq_getD_getElem?, Array.getElem?_eq_getElem hk'] at hb ⊢
                simpa using hb
              · have := aftersB_at ops.toList 0 k ops[k] ha (by simp [hk]) e he hbd
                exact ihk e.on (by omega) (by omega)
            rw [hr] at hmem
            cases hmem
      exact hE u w (by rw [← hdone listed hall]; exact hw) fun k hk => by rw [← hdone listed hall]; exact hV k (hall k hk)
    · obtain ⟨h0, o, ho, hall⟩ := mem_ready.1 hi
      have hi' : i < ops.size := (Array.getElem?_eq_some_iff.1 ho).1
      have hk' : i < listed.size := by omega
      have ho' : ops.toList[i]? = some o := by rw [Array.getElem?_toList]; exact ho
      have hL := localsQ_at ops.toList 0 i o hl ho'
      have afterB_lt : ∀ e ∈ o.after, Region.binds .any e = true → e.on < i := fun e he hbd => by
        have := aftersB_at ops.toList 0 i o ha ho' e he hbd
        omega
      rw [Nat.zero_add] at hL
      have haft : ∀ k, (o.after.any fun e => Region.binds .any e && e.on == k) = true → V (stage cs listed) k (u k) w := fun k hk => by
        rw [Array.any_eq_true] at hk
        obtain ⟨q, hq, he⟩ := hk
        rw [Bool.and_eq_true] at he
        have := hall _ (Array.getElem_mem hq) he.1
        rw [beq_iff_eq.1 he.2] at this
        exact hV k this
      have hf : listed.toList[i]? = some false := by
        rw [Array.getD_eq_getD_getElem?, Array.getElem?_eq_getElem hk'] at h0
        rw [Array.getElem?_toList, Array.getElem?_eq_getElem hk']
        simpa using h0
      have hcnt := count_set listed.toList i hf
      have hother : ∀ k, k ≠ i → (listed.setIfInBounds i true).getD k false = true → listed.getD k false = true := fun k hki hk => by
        rw [Array.getD_eq_getD_getElem?, Array.getElem?_setIfInBounds_ne (Ne.symm hki)] at hk
        rw [Array.getD_eq_getD_getElem?]
        exact hk
      have hlen : (stage cs listed).length = cs.length := List.length_map ..
      have hun : listed.getD i false = false := by
        rw [Array.getD_eq_getD_getElem?, Array.getElem?_eq_getElem hk'] at h0 ⊢
        simpa using h0
      have hord' : ∀ (k : Nat) (ok : Oper), ops[k]? = some ok → (listed.setIfInBounds i true).getD k false = true → ∀ e ∈ ok.after, Region.binds .any e = true → (listed.setIfInBounds i true).getD e.on false = true := fun k ok hok hk e he hbd => by
        have hup : ∀ m, listed.getD m false = true → (listed.setIfInBounds i true).getD m false = true := fun m hm => by
          by_cases hmi : i = m
          · subst hmi; rw [hun] at hm; cases hm
          · rw [Array.getD_eq_getD_getElem?, Array.getElem?_setIfInBounds_ne hmi, ← Array.getD_eq_getD_getElem?]; exact hm
        refine hup _ ?_
        by_cases hki : k = i
        · subst hki
          rw [ho] at hok
          cases hok
          have h5 := hall e he hbd
          have h6 := afterB_lt e he hbd
          rw [Array.getD_eq_getD_getElem?, Array.getElem?_eq_getElem (show e.on < listed.size by omega)] at h5 ⊢
          simpa using h5
        · exact hord k ok hok (hother k hki hk) e he hbd
      have hno : ∀ (p c : Nat) (oc : Oper), (stage cs listed)[p]? = some true → cs[p]? = some c → ops[c]? = some oc → (oc.after.any fun e => Region.binds .any e && e.on == i) = false := fun p c oc hp hcp hoc => by
        unfold stage at hp
        rw [List.getElem?_map, hcp] at hp
        have hlc : listed.getD c false = true := by simpa using hp
        cases hany : (oc.after.any fun e => Region.binds .any e && e.on == i) with
        | false => rfl
        | true =>
          rw [Array.any_eq_true] at hany
          obtain ⟨q, hq, he⟩ := hany
          rw [Bool.and_eq_true] at he
          have h7 := hord c oc hoc hlc _ (Array.getElem_mem hq) he.1
          rw [beq_iff_eq.1 he.2, hun] at h7
          cases h7
      by_cases hmem : i ∈ cs
      · obtain ⟨p, hp⟩ := List.mem_iff_getElem?.1 hmem
        have hpu : ∀ (q : Nat), cs[q]? = some i → q = p := fun q hq => hcs p q i hp hq
        have hbp : (stage cs listed)[p]? = some false := by
          unfold stage
          rw [List.getElem?_map, hp]
          have h00 : listed.getD i false = false := by
            rw [Array.getD_eq_getD_getElem?, Array.getElem?_eq_getElem hk'] at h0 ⊢
            simpa using h0
          simpa using h00
        obtain ⟨hwant, hstep⟩ := hL.2 p hp (stage cs listed) u w hlen hbp hw haft (fun q j hq hj => by
          refine hV j ?_
          unfold stage at hq
          rw [List.getElem?_map, hj] at hq
          simpa using hq)
        unfold Go.wpOp
        simp only [ho]
        rw [if_pos hwant]
        refine .inl (hstep _ _ fun v w' hJ' hv hkeep => ?_)
        rw [fill_upd u v ops.toList 0 i a0 o hd ho', Nat.zero_add]
        refine ih (listed.setIfInBounds i true) (upd u i v) w' (by simpa using hsz) (by rw [Array.toList_setIfInBounds, hcnt]; omega) (by rw [stage_turn hk' hp hpu]; exact hJ') hord' fun k hk => ?_
        rw [stage_turn hk' hp hpu]
        by_cases hki : k = i
        · subst hki; rw [upd_same]; exact hv
        · rw [upd_ne hki]
          exact hkeep k (hV k (hother k hki hk))
      · have hs := hL.1 hmem (stage cs listed) u w hlen hw hno haft
        refine hs.wpOp ho fun v w' hE' hv => ?_
        rw [fill_upd u v ops.toList 0 i a0 o hd ho', Nat.zero_add]
        refine ih (listed.setIfInBounds i true) (upd u i v) w' (by simpa using hsz) (by rw [Array.toList_setIfInBounds, hcnt]; omega) (by rw [stage_other hmem]; exact hJ _ w w' hw hE') hord' fun k hk => ?_
        rw [stage_other hmem]
        by_cases hki : k = i
        · subst hki; rw [upd_same]; exact hv
        · rw [upd_ne hki]
          exact hst _ k _ w w' hw hE' (hV k (hother k hki hk))

/-- The whole region. -/
theorem wp_region_stage {Q : Exit → Act → World → Prop} {id : Nat} {w : World} (cs : List Nat) (J : List Bool → World → Prop) (V : List Bool → Nat → Value → World → Prop) (hcs : ∀ (p q i : Nat), cs[p]? = some i → cs[q]? = some i → q = p) (hin : ∀ c ∈ cs, c < ops.size) (hm : P.follows .mixedOrders = true)
    (hd : dstsOk (ops.toList.map (·.dst)) = true) (ha : aftersOkB ops.toList 0 = true)
    (h00 : J (cs.map fun _ => false) w.drew) (hJ : ∀ (bs : List Bool) w1 w2, J bs w1 → Ext w1 w2 → J bs w2)
    (hst : ∀ (bs : List Bool) (k : Nat) v w1 w2, J bs w1 → Ext w1 w2 → V bs k v w1 → V bs k v w2) (hl : LocalsQ P ops J V cs a0 ops.toList 0)
    (hE : ∀ u w', J (cs.map fun _ => true) w' → (∀ k, k < ops.size → V (cs.map fun _ => true) k (u k) w') → Q .normal (fillOps ops.toList u 0 a0) w') : (Code.region id ops true).wp P Q a0 w := by
  have h0 : fillOps ops.toList (fun k => ((ops.toList[k]?).bind fun o => o.dst.bind fun d => a0.tmps[d]?).getD undef) 0 a0 = a0 := by
    refine fill_id _ ops.toList 0 a0 fun j o ho => ?_
    simp only [Nat.zero_add, ho, Option.bind_some]
    cases hq : o.dst with
    | none => rfl
    | some d =>
      simp only [Act.put, Option.bind_some]
      by_cases hlt : d < a0.tmps.size
      · rw [Array.getElem?_eq_getElem hlt]
        simp [Array.setIfInBounds, hlt]
      · simp [Array.setIfInBounds, hlt]
  refine wp_region_any hm ?_
  rw [← h0]
  refine wpAny_stage hcs hd ha hJ hst hl hE hin ops.size _ _ _ (by simp) (by simp [List.count_replicate]) ?_ ?_ fun k hk => ?_
  · rw [show stage cs (Array.replicate ops.size false) = cs.map fun _ => false from List.map_congr_left fun c _ => getD_rep ops.size c]; exact h00
  · intro k ok _ hk
    rw [getD_rep] at hk
    cases hk
  exfalso
  rw [Array.getD_eq_getD_getElem?, Array.getElem?_replicate] at hk
  split at hk <;> simp at hk
/-- Three cells laid anew. -/
theorem heap_set3 (w : World) (g : Nat) (a b c : Value) (j : Nat) (h : j ≠ g) : (((w.setCell ⟨g, 0, none⟩ a).setCell ⟨g, 1, none⟩ b).setCell ⟨g, 2, none⟩ c).heap[j]? = w.heap[j]? :=
  (Below.heap_setCell _ ⟨g, 2, none⟩ c j h).trans ((Below.heap_setCell _ ⟨g, 1, none⟩ b j h).trans (Below.heap_setCell _ ⟨g, 0, none⟩ a j h))
end
end Go
