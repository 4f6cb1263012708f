/-
  A region that draws its order and whose world is told by which operations have run: if every operation, run where what it waits for has run, leaves its one value and the world that is told next, then behind the region all values stand and the world is the last one. No order is walked. · A region that draws its order, whose first n operations only add to the world, and whose other operations come last, one behind the other: the first ones by one fact an operation, the last ones as a plain list. No order is walked. · A region that draws its order, by one fact an operation, each over what its operands are and over no frame. · A region whose operations turn what it made, by one fact an operation, each over what its operands are and over no frame.
-/
import Derived.Test.YtmnpbpfeoackiaaDoorInv2
import Derived.StillTail
import Derived.Test.YtmnpbpfeoackiaaDoorInvS
namespace Go
open Go.Proofs.YtmnpbpfeoackiaaDoor

section
variable {P : Program} {ops : Array Oper} {a0 : Act}

def setL (L : Nat → Bool) (i : Nat) : Nat → Bool := fun k => if k = i then true else L k
/-- What operation j waits for. -/
def waitsFor (ops : Array Oper) (j k : Nat) : Bool := ((ops[j]?).map fun o => o.after.any fun e => Region.binds .any e && e.on == k).getD false

/-- What is to be shown of operation i. -/
def LocalS (P : Program) (ops : Array Oper) (c : Nat → Value) (wOf : (Nat → Bool) → World) (a0 : Act) (i : Nat) (o : Oper) : Prop :=
  ∀ (u : Nat → Value) (L : Nat → Bool), L i = false → (∀ j k, L j = true → waitsFor ops j k = true → L k = true) → (∀ k, waitsFor ops i k = true → L k = true ∧ u k = c k) →
    Region.wanted o (yielded ops (fillOps ops.toList u 0 a0).tmps) = true ∧
    ((execOp (fillOps ops.toList u 0 a0).eval o).run P (wOf L) = .ok (.value (c i)) (wOf (setL L i)) ∨
     (c i = undef ∧ (execOp (fillOps ops.toList u 0 a0).eval o).run P (wOf L) = .ok .skip (wOf (setL L i))) ∨
     (∃ f args, (execOp (fillOps ops.toList u 0 a0).eval o).run P (wOf L) = .ok (.enter f args) (wOf L) ∧ Calls P f args (wOf L) fun e w'' => e = .returned (c i) ∧ w'' = wOf (setL L i)))
def LocalsS (P : Program) (ops : Array Oper) (c : Nat → Value) (wOf : (Nat → Bool) → World) (a0 : Act) : List Oper → Nat → Prop
  | [], _ => True
  | o :: r, i => LocalS P ops c wOf a0 i o ∧ LocalsS P ops c wOf a0 r (i + 1)
variable {c : Nat → Value} {wOf : (Nat → Bool) → World}
theorem localsS_nil {i} : LocalsS P ops c wOf a0 [] i := trivial
theorem localsS_cons {o : Oper} {r : List Oper} {i : Nat} (h : LocalS P ops c wOf a0 i o) (hr : LocalsS P ops c wOf a0 r (i + 1)) : LocalsS P ops c wOf a0 (o :: r) i := ⟨h, hr⟩
theorem localsS_at : ∀ (r : List Oper) (k i : Nat) (o : Oper), LocalsS P ops c wOf a0 r k → r[i]? = some o → LocalS P ops c wOf a0 (k + i) o
  | [], _, _, _, _, h => by cases h
  | o' :: r, k, 0, o, hl, h => by obtain rfl : o' = o := by simpa using h
                                  exact hl.1
  | o' :: r, k, i + 1, o, hl, h => by
    rw [show k + (i + 1) = k + 1 + i by omega]
    exact localsS_at r (k + 1) i o hl.2 (by simpa using h)

theorem waits_at {j k : Nat} {o : Oper} (ho : ops[j]? = some o) (h : waitsFor ops j k = true) : ∃ e ∈ o.after, Region.binds .any e = true ∧ e.on = k := by
  unfold waitsFor at h
  rw [ho] at h
  simp only [Option.map_some, Option.getD_some] at h
  rw [Array.any_eq_true] at h
  obtain ⟨q, hq, he⟩ := h
  rw [Bool.and_eq_true] at he
  exact ⟨_, Array.getElem_mem hq, he.1, by simpa using he.2⟩

theorem wpAny_states {Q : Exit → Act → World → Prop} (hd : dstsOk (ops.toList.map (·.dst)) = true) (ha : aftersOk ops.toList 0 = true) (hl : LocalsS P ops c wOf a0 ops.toList 0)
    (hE : ∀ u L, (∀ k, k < ops.size → L k = true ∧ u k = c k) → Q .normal (fillOps ops.toList u 0 a0) (wOf L)) :
    ∀ (fuel : Nat) (listed : Array Bool) (u : Nat → Value), listed.size = ops.size → listed.toList.count true + fuel = ops.size →
      (∀ j k, listed.getD j false = true → waitsFor ops j k = true → listed.getD k false = true) →
      (∀ k, listed.getD k false = true → u k = c k) → wpAny P .any ops Q fuel listed (fillOps ops.toList u 0 a0) (wOf fun k => listed.getD k false) := by
  intro fuel
  induction fuel with
  | zero =>
    intro listed u hsz hc hcl hV
    have hall : ∀ k, k < ops.size → listed.getD k false = true := by
      intro k hk
      have h1 : ∀ b ∈ listed.toList, true = b := List.count_eq_length.1 (by simpa [hsz] using hc)
      have hk' : k < listed.size := by omega
      rw [Array.getD_eq_getD_getElem?, Array.getElem?_eq_getElem hk']
      exact (h1 _ (by simp)).symm
    refine ⟨?_, hE u _ fun k hk => ⟨hall k hk, hV k (hall k hk)⟩⟩
    rw [List.eq_nil_iff_forall_not_mem]
    intro j hj
    obtain ⟨h0, o, ho, _⟩ := mem_ready.1 hj
    have hj' : j < ops.size := (Array.getElem?_eq_some_iff.1 ho).1
    have := hall j hj'
    have hk' : j < listed.size := by omega
    rw [Array.getD_eq_getD_getElem?, Array.getElem?_eq_getElem hk'] at this h0
    simp at this h0
    rw [this] at h0; cases h0
  | succ fuel ih =>
    intro listed u hsz hc hcl hV
    refine ⟨fun hr => hE u _ fun k hk => ?_, fun i hi => ?_⟩
    · have : ∀ k, k < ops.size → listed.getD k false = true := by
        intro k
        induction k using Nat.strongRecOn with
        | ind k ihk =>
          intro hk
          cases hb : listed.getD k false with
          | true => rfl
          | false =>
            exfalso
            have hk' : k < listed.size := by omega
            have hmem : k ∈ Region.ready .any ops listed := by
              rw [mem_ready]
              refine ⟨?_, ops[k], Array.getElem?_eq_getElem hk, fun e he _ => ?_⟩
              · rw [Array.getD_eq_getD_getElem?, Array.getElem?_eq_getElem hk'] at hb ⊢
                simpa using hb
              · have := afters_at ops.toList 0 k ops[k] ha (by simp [hk]) e he
                exact ihk e.on (by omega) (by omega)
            rw [hr] at hmem
            cases hmem
      exact ⟨this k hk, hV k (this k hk)⟩
    · obtain ⟨h0, o, ho, hall⟩ := mem_ready.1 hi
      have hi' : i < ops.size := (Array.getElem?_eq_some_iff.1 ho).1
      have hk' : i < listed.size := by omega
      have ho' : ops.toList[i]? = some o := by rw [Array.getElem?_toList]; exact ho
      have hL := localsS_at ops.toList 0 i o hl ho'
      rw [Nat.zero_add] at hL
      have hi0 : listed.getD i false = false := by
        rw [Array.getD_eq_getD_getElem?, Array.getElem?_eq_getElem hk'] at h0 ⊢
        simpa using h0
      have hdep : ∀ k, waitsFor ops i k = true → listed.getD k false = true := fun k hk => by
        obtain ⟨e, he, hb, rfl⟩ := waits_at ho hk
        exact hall e he hb
      have hset : (fun k => (listed.setIfInBounds i true).getD k false) = setL (fun k => listed.getD k false) i := by
        funext k
        unfold setL
        by_cases hki : k = i
        · subst hki
          rw [if_pos rfl, Array.getD_eq_getD_getElem?, Array.getElem?_setIfInBounds_self_of_lt hk']
          rfl
        · rw [if_neg hki, Array.getD_eq_getD_getElem?, Array.getElem?_setIfInBounds_ne (Ne.symm hki)]
          exact (Array.getD_eq_getD_getElem? ..).symm
      obtain ⟨hw, hv⟩ := hL u (fun k => listed.getD k false) hi0 hcl (fun k hk => ⟨hdep k hk, hV k (hdep k hk)⟩)
      have next : wpAny P .any ops Q fuel (listed.setIfInBounds i true) ((fillOps ops.toList u 0 a0).put o.dst (c i)) (wOf (setL (fun k => listed.getD k false) i)) := by
        rw [fill_upd u (c i) ops.toList 0 i a0 o hd ho', Nat.zero_add, ← hset]
        refine ih (listed.setIfInBounds i true) (upd u i (c i)) (by simpa using hsz) ?_ ?_ fun k hk => ?_
        · have hf : listed.toList[i]? = some false := by
            rw [Array.getD_eq_getD_getElem?, Array.getElem?_eq_getElem hk'] at h0
            rw [Array.getElem?_toList, Array.getElem?_eq_getElem hk']
            simpa using h0
          have := count_set listed.toList i hf
          rw [Array.toList_setIfInBounds, this]
          omega
        · intro j k hj hk
          have e1 := congrFun hset j
          have e2 := congrFun hset k
          rw [e2]
          rw [e1] at hj
          unfold setL at hj ⊢
          by_cases hki : k = i
          · rw [if_pos hki]
          · rw [if_neg hki]
            by_cases hji : j = i
            · subst hji; exact hdep k hk
            · rw [if_neg hji] at hj; exact hcl j k hj hk
        · by_cases hki : k = i
          · subst hki; exact upd_same _ _ _
          · rw [upd_ne hki]
            have e2 := congrFun hset k
            rw [e2] at hk
            unfold setL at hk
            rw [if_neg hki] at hk
            exact hV k hk
      unfold Go.wpOp
      simp only [ho, hw, if_true]
      left
      unfold Oper.wp
      rcases hv with hr | ⟨hu, hr⟩ | ⟨f, args, hr, hcall⟩
      · rw [hr]; exact next
      · rw [hr]; rw [hu] at next; exact next
      · rw [hr, Oper.upon_enter]
        refine hcall.mono fun e w'' he => ?_
        obtain ⟨rfl, rfl⟩ := he
        exact next

/-- The whole region. -/
theorem wp_region_states {Q : Exit → Act → World → Prop} {id : Nat} {w : World} (c : Nat → Value) (wOf : (Nat → Bool) → World) (hm : P.follows .mixedOrders = true)
    (hd : dstsOk (ops.toList.map (·.dst)) = true) (ha : aftersOk ops.toList 0 = true) (hw : wOf (fun _ => false) = w.drew) (hl : LocalsS P ops c wOf a0 ops.toList 0)
    (hE : ∀ u L, (∀ k, k < ops.size → L k = true ∧ u k = c k) → Q .normal (fillOps ops.toList u 0 a0) (wOf L)) : (Code.region id ops true).wp P Q a0 w := by
  have h0 : fillOps ops.toList (fun k => ((ops.toList[k]?).bind fun o => o.dst.bind fun d => a0.tmps[d]?).getD undef) 0 a0 = a0 := by
    refine fill_id _ ops.toList 0 a0 fun j o ho => ?_
    simp only [Nat.zero_add, ho, Option.bind_some]
    cases hq : o.dst with
    | none => rfl
    | some d =>
      simp only [Act.put, Option.bind_some]
      by_cases hlt : d < a0.tmps.size
      · rw [Array.getElem?_eq_getElem hlt]
        simp [Array.setIfInBounds, hlt]
      · simp [Array.setIfInBounds, hlt]
  have hr : ∀ k, (Array.replicate ops.size false).getD k false = false := fun k => by
    rw [Array.getD_eq_getD_getElem?, Array.getElem?_replicate]
    split <;> rfl
  refine wp_region_any hm ?_
  have hw2 : (wOf fun k => (Array.replicate ops.size false).getD k false) = w.drew := by rw [← hw]; congr 1; funext k; exact hr k
  have := wpAny_states (Q := Q) hd ha hl hE ops.size (Array.replicate ops.size false) (fun k => ((ops.toList[k]?).bind fun o => o.dst.bind fun d => a0.tmps[d]?).getD undef) (by simp) (by simp [List.count_replicate])
    (fun j k hj => by rw [hr] at hj; cases hj) (fun k hk => by rw [hr] at hk; cases hk)
  rw [h0, hw2] at this
  exact this
theorem setL_ne {L : Nat → Bool} {i k : Nat} (h : k ≠ i) : setL L i k = L k := if_neg h
theorem setL_eq {L : Nat → Bool} {i : Nat} : setL L i i = true := if_pos rfl
end
end Go

namespace Go
open Go.Proofs.YtmnpbpfeoackiaaDoor

section
variable {P : Program} {ops : Array Oper} {w0 : World} {V : Nat → Value → World → Prop} {a0 : Act}

/-- What is to be shown of operation i, over the frame that the operations of r0 fill. -/
def LocalR (P : Program) (ops : Array Oper) (w0 : World) (V : Nat → Value → World → Prop) (r0 : List Oper) (a0 : Act) (i : Nat) (o : Oper) : Prop :=
  ∀ (u : Nat → Value) (w : World), Ext w0 w → (∀ k, (o.after.any fun e => Region.binds .any e && e.on == k) = true → V k (u k) w) → OpLeaves P ops (V i) o (fillOps r0 u 0 a0) w
def LocalsR (P : Program) (ops : Array Oper) (w0 : World) (V : Nat → Value → World → Prop) (r0 : List Oper) (a0 : Act) : List Oper → Nat → Prop
  | [], _ => True
  | o :: r, i => LocalR P ops w0 V r0 a0 i o ∧ LocalsR P ops w0 V r0 a0 r (i + 1)
theorem localsR_nil {r0 : List Oper} {i} : LocalsR P ops w0 V r0 a0 [] i := trivial
theorem localsR_cons {r0 : List Oper} {o : Oper} {r : List Oper} {i : Nat} (h : LocalR P ops w0 V r0 a0 i o) (hr : LocalsR P ops w0 V r0 a0 r (i + 1)) : LocalsR P ops w0 V r0 a0 (o :: r) i := ⟨h, hr⟩
theorem localsR_at {r0 : List Oper} : ∀ (r : List Oper) (k i : Nat) (o : Oper), LocalsR P ops w0 V r0 a0 r k → r[i]? = some o → LocalR P ops w0 V r0 a0 (k + i) o
  | [], _, _, _, _, h => by cases h
  | o' :: r, k, 0, o, hl, h => by obtain rfl : o' = o := by simpa using h
                                  exact hl.1
  | o' :: r, k, i + 1, o, hl, h => by
    rw [show k + (i + 1) = k + 1 + i by omega]
    exact localsR_at r (k + 1) i o hl.2 (by simpa using h)

def headDone (n m : Nat) : Array Bool := Array.replicate n true ++ Array.replicate m false
theorem headDone_at (n m k : Nat) : (headDone n m)[k]? = if k < n then some true else if k < n + m then some false else none := by
  unfold headDone
  rw [Array.getElem?_append]
  simp only [Array.size_replicate, Array.getElem?_replicate]
  by_cases h1 : k < n
  · simp [h1]
  · simp only [h1, if_false]
    by_cases h2 : k < n + m
    · rw [if_pos (by omega), if_pos h2]
    · rw [if_neg (by omega), if_neg h2]

theorem wpAny_tails {Q : Exit → Act → World → Prop} {n : Nat} (hs : Region.sinkB .any ops n = true) (hc : Region.chainB .any ops n = true) (hn : n < ops.size) (hseq : Region.seqB .any ops (ops.size - n) n (headDone n (ops.size - n)) = true)
    (hd : dstsOk ((ops.toList.take n).map (·.dst)) = true) (ha : aftersOk ops.toList 0 = true)
    (hst : ∀ k v w w', Ext w0 w → Ext w w' → V k v w → V k v w') (hl : LocalsR P ops w0 V (ops.toList.take n) a0 (ops.toList.take n) 0)
    (hE : ∀ u w, Ext w0 w → (∀ k, k < n → V k (u k) w) → wpList P ops Q (ops.toList.drop n) (fillOps (ops.toList.take n) u 0 a0) w) :
    ∀ (f : Nat) (listed : Array Bool) (u : Nat → Value) (w : World), HeadInv .any ops n listed → (listed.toList.take n).count true + f = n → Ext w0 w →
      (∀ k, listed.getD k false = true → V k (u k) w) → wpAny P .any ops Q (f + (ops.size - n)) listed (fillOps (ops.toList.take n) u 0 a0) w := by
  intro f
  induction f with
  | zero =>
    intro listed u w inv hcount hw hV
    have hsz := inv.size
    have hlen : (listed.toList.take n).length = n := by rw [List.length_take, Array.length_toList]; omega
    have hall : ∀ k, k < n → listed[k]? = some true := by
      intro k hk
      have h1 : ∀ b ∈ listed.toList.take n, true = b := List.count_eq_length.1 (by rw [hlen]; omega)
      have hk' : k < listed.size := by omega
      rw [Array.getElem?_eq_getElem hk']
      congr 1
      refine (h1 _ ?_).symm
      rw [List.mem_take_iff_getElem]
      exact ⟨k, by rw [Array.length_toList]; omega, by simp⟩
    have htail : ∀ k, n ≤ k → k < ops.size → listed[k]? = some false := by
      intro k hk1 hk2
      have h0 := inv.tail k hk1 hk2
      have hk' : k < listed.size := by omega
      rw [Array.getD_eq_getD_getElem?, Array.getElem?_eq_getElem hk'] at h0
      rw [Array.getElem?_eq_getElem hk']
      simpa using h0
    have heq : listed = headDone n (ops.size - n) := by
      apply Array.ext_getElem?
      intro k
      rw [headDone_at]
      by_cases h1 : k < n
      · rw [if_pos h1]; exact hall k h1
      · rw [if_neg h1]
        by_cases h2 : k < ops.size
        · rw [if_pos (by omega)]; exact htail k (by omega) h2
        · rw [if_neg (by omega)]; exact Array.getElem?_eq_none (by omega)
    have hdl : (ops.toList.drop n).length = ops.size - n := by simp
    have H := wpAny_of_seq (P := P) (md := .any) (Q' := Q) (ops.toList.drop n) n listed (fillOps (ops.toList.take n) u 0 a0) w (fun j => by simp [List.getElem?_drop]) (by rw [hdl, heq]; exact hseq)
      (hE u w hw fun k hk => hV k (by rw [Array.getD_eq_getD_getElem?, hall k hk]; rfl))
    rw [hdl] at H
    rw [Nat.zero_add]
    exact H
  | succ f ih =>
    intro listed u w inv hcount hw hV
    have hsz := inv.size
    have hlen : (listed.toList.take n).length = n := by rw [List.length_take, Array.length_toList]; omega
    -- one of the first ones is not listed yet
    have hex : ∃ i, i < n ∧ listed.getD i true = false := by
      apply Classical.byContradiction
      intro hno
      have : ∀ b ∈ listed.toList.take n, true = b := by
        intro b hb
        obtain ⟨k, hk, rfl⟩ := List.mem_iff_getElem.1 hb
        have hk2 : k < n := by omega
        cases hq : (listed.toList.take n)[k] with
        | true => rfl
        | false =>
          exfalso
          refine hno ⟨k, hk2, ?_⟩
          have hk' : k < listed.size := by omega
          rw [Array.getD_eq_getD_getElem?, Array.getElem?_eq_getElem hk']
          simpa using hq
      have := List.count_eq_length.2 this
      omega
    obtain ⟨i0, hi0, hun0⟩ := hex
    have hlow : ∀ t, t ∈ Region.ready .any ops listed → t < n := fun t ht => by
      rcases Nat.lt_or_ge t n with h | h
      · exact h
      · exact absurd ht (tail_waits hs hc hn inv _ i0 rfl hi0 hun0 t h)
    rw [show f + 1 + (ops.size - n) = (f + (ops.size - n)) + 1 by omega]
    refine ⟨fun hr => ?_, fun i hi => ?_⟩
    · exfalso
      have : ∀ k, k < n → listed.getD k true = true := by
        intro k
        induction k using Nat.strongRecOn with
        | ind k ihk =>
          intro hk
          cases hb : listed.getD k true with
          | true => rfl
          | false =>
            exfalso
            have hmem : k ∈ Region.ready .any ops listed := by
              rw [mem_ready]
              refine ⟨hb, ops[k]'(by omega), Array.getElem?_eq_getElem (by omega), fun e he _ => ?_⟩
              have h1 := afters_at ops.toList 0 k (ops[k]'(by omega)) ha (by simp [show k < ops.size by omega]) e he
              have h2 := ihk e.on (by omega) (by omega)
              have h3 : e.on < listed.size := by omega
              rw [Array.getD_eq_getD_getElem?, Array.getElem?_eq_getElem h3] at h2 ⊢
              simpa using h2
            rw [hr] at hmem
            cases hmem
      rw [this i0 hi0] at hun0
      cases hun0
    · have hin := hlow i hi
      have inv' := inv.set hi hin
      obtain ⟨h0, o', ho', hall⟩ := mem_ready.1 hi
      have hk' : i < listed.size := by omega
      have ho3 : (ops.toList.take n)[i]? = some o' := by rw [List.getElem?_take, if_pos hin, Array.getElem?_toList]; exact ho'
      have hL := localsR_at (ops.toList.take n) 0 i o' hl ho3
      rw [Nat.zero_add] at hL
      have hss := hL u w hw (fun k hk => by
        rw [Array.any_eq_true] at hk
        obtain ⟨q, hq, he⟩ := hk
        rw [Bool.and_eq_true] at he
        have := hall _ (Array.getElem_mem hq) he.1
        rw [beq_iff_eq.1 he.2] at this
        exact hV k this)
      refine hss.wpOp ho' fun v w' hE' hv => ?_
      rw [fill_upd u v (ops.toList.take n) 0 i a0 o' hd ho3, Nat.zero_add]
      refine ih (listed.setIfInBounds i true) (upd u i v) w' inv' ?_ (hw.tr hE') fun k hk => ?_
      · have hf : (listed.toList.take n)[i]? = some false := by
          rw [Array.getD_eq_getD_getElem?, Array.getElem?_eq_getElem hk'] at h0
          rw [List.getElem?_take, if_pos hin, Array.getElem?_toList, Array.getElem?_eq_getElem hk']
          simpa using h0
        have := count_set (listed.toList.take n) i hf
        rw [Array.toList_setIfInBounds, List.take_set, this]
        omega
      · by_cases hki : k = i
        · subst hki; rw [upd_same]; exact hv
        · rw [upd_ne hki]
          refine hst k _ w w' hw hE' (hV k ?_)
          rw [Array.getD_eq_getD_getElem?, Array.getElem?_setIfInBounds_ne (Ne.symm hki)] at hk
          rw [Array.getD_eq_getD_getElem?]
          exact hk

/-- The whole region. -/
theorem wp_region_tails {Q : Exit → Act → World → Prop} {id : Nat} {w : World} (V : Nat → Value → World → Prop) (n : Nat) (hm : P.follows .mixedOrders = true)
    (hs : Region.sinkB .any ops n = true) (hc : Region.chainB .any ops n = true) (hn : n < ops.size) (hseq : Region.seqB .any ops (ops.size - n) n (headDone n (ops.size - n)) = true)
    (hd : dstsOk ((ops.toList.take n).map (·.dst)) = true) (ha : aftersOk ops.toList 0 = true)
    (hst : ∀ k v w1 w2, Ext w w1 → Ext w1 w2 → V k v w1 → V k v w2) (hl : LocalsR P ops w V (ops.toList.take n) a0 (ops.toList.take n) 0)
    (hE : ∀ u w', Ext w w' → (∀ k, k < n → V k (u k) w') → wpList P ops Q (ops.toList.drop n) (fillOps (ops.toList.take n) u 0 a0) w') : (Code.region id ops true).wp P Q a0 w := by
  have h0 : fillOps (ops.toList.take n) (fun k => (((ops.toList.take n)[k]?).bind fun o => o.dst.bind fun d => a0.tmps[d]?).getD undef) 0 a0 = a0 := by
    refine fill_id _ (ops.toList.take n) 0 a0 fun j o ho => ?_
    simp only [Nat.zero_add, ho, Option.bind_some]
    cases hq : o.dst with
    | none => rfl
    | some d =>
      simp only [Act.put, Option.bind_some]
      by_cases hlt : d < a0.tmps.size
      · rw [Array.getElem?_eq_getElem hlt]
        simp [Array.setIfInBounds, hlt]
      · simp [Array.setIfInBounds, hlt]
  have hr : ∀ k, (Array.replicate ops.size false).getD k false = false := fun k => getD_replicate_false _ _
  refine wp_region_any hm ?_
  have inv0 : HeadInv .any ops n (Array.replicate ops.size false) :=
    ⟨by simp, fun j oj _ hl => (by rw [hr] at hl; cases hl), fun t _ ht => getD_in (by simpa using ht) (hr _)⟩
  have H := wpAny_tails (Q := Q) (w0 := w) hs hc hn hseq hd ha hst hl hE n (Array.replicate ops.size false) (fun k => (((ops.toList.take n)[k]?).bind fun o => o.dst.bind fun d => a0.tmps[d]?).getD undef) w.drew inv0
    (by simp [List.take_replicate, List.count_replicate]) (Ext.rfl' w).dr fun k hk => by rw [hr] at hk; cases hk
  rw [h0, show n + (ops.size - n) = ops.size by omega] at H
  exact H
end
end Go

namespace Go
open Go.Proofs.YtmnpbpfeoackiaaDoor

/-- Whether an operation writes a slot. -/
def hitsB : Option Tmp → Nat → Bool
  | some d, t => Nat.beq d t
  | none, _ => false
/-- What slot t holds behind the operations of r. -/
def fillAt : List Oper → (Nat → Value) → Nat → Act → Nat → Value
  | [], _, _, a, t => a.tmps.getD t undef
  | o :: r, u, k, a, t => cond (hitsB o.dst t) (u k) (fillAt r u (k + 1) a t)
def dstIn (n : Nat) : Option Tmp → Bool
  | some d => Nat.blt d n
  | none => true
def fillOk (r : List Oper) (n : Nat) : Bool := dstsOk (r.map (·.dst)) && r.all fun o => dstIn n o.dst

theorem hitsB_eq {d : Option Tmp} {t : Nat} : hitsB d t = true ↔ d = some t := by
  cases d with
  | none => simp [hitsB]
  | some d => simp [hitsB]
theorem put_size (a : Act) (d : Option Tmp) (v : Value) : (a.put d v).tmps.size = a.tmps.size := by
  cases d with
  | none => rfl
  | some d => simp [Act.put]
theorem put_ne (a : Act) (d : Option Tmp) (v : Value) {t : Nat} (h : d ≠ some t) : (a.put d v).tmps.getD t undef = a.tmps.getD t undef := by
  cases d with
  | none => rfl
  | some d =>
    have hd : d ≠ t := fun e => h (by rw [e])
    simp only [Act.put]
    rw [Array.getD_eq_getD_getElem?, Array.getD_eq_getD_getElem?, Array.getElem?_setIfInBounds_ne hd]
theorem put_eq (a : Act) (v : Value) {t : Nat} (h : t < a.tmps.size) : (a.put (some t) v).tmps.getD t undef = v := by
  simp only [Act.put]
  rw [Array.getD_eq_getD_getElem?, Array.getElem?_setIfInBounds_self_of_lt h]
  rfl
theorem fillOps_ne (u : Nat → Value) {t : Nat} : ∀ (r : List Oper) (k : Nat) (a : Act), (∀ o ∈ r, o.dst ≠ some t) → (fillOps r u k a).tmps.getD t undef = a.tmps.getD t undef
  | [], _, _, _ => rfl
  | o :: r, k, a, h => by
    unfold fillOps
    rw [fillOps_ne u r (k + 1) _ fun o' ho => h o' (List.mem_cons_of_mem _ ho), put_ne a o.dst _ (h o List.mem_cons_self)]
theorem fillAt_eq (u : Nat → Value) (t : Nat) : ∀ (r : List Oper) (k : Nat) (a b : Act), a.tmps.size = b.tmps.size → a.tmps.getD t undef = b.tmps.getD t undef → fillOk r a.tmps.size = true → (fillOps r u k a).tmps.getD t undef = fillAt r u k b t
  | [], _, _, _, _, h, _ => h
  | o :: r, k, a, b, hs, h, hf => by
    have hf' : fillOk r a.tmps.size = true ∧ dstIn a.tmps.size o.dst = true ∧ ∀ d, o.dst = some d → ∀ o' ∈ r, o'.dst ≠ some d := by
      unfold fillOk at hf ⊢
      simp only [List.map_cons, List.all_cons, Bool.and_eq_true] at hf
      obtain ⟨h1, h2, h3⟩ := hf
      cases hd : o.dst with
      | none =>
        rw [hd] at h1
        exact ⟨by rw [Bool.and_eq_true]; exact ⟨h1, h3⟩, rfl, fun d h => by cases h⟩
      | some d =>
        rw [hd] at h1 h2
        simp only [dstsOk, Bool.and_eq_true, Bool.not_eq_true'] at h1
        refine ⟨by rw [Bool.and_eq_true]; exact ⟨h1.2, h3⟩, h2, fun d' h o' ho he => ?_⟩
        cases h
        have hc : (r.map (·.dst)).contains (some d) = true := by
          rw [List.contains_iff_mem]
          exact List.mem_map.2 ⟨o', ho, he⟩
        rw [h1.1] at hc
        cases hc
    unfold fillOps fillAt
    cases hb : hitsB o.dst t with
    | true =>
      have hd := hitsB_eq.1 hb
      have hlt : t < a.tmps.size := by
        have := hf'.2.1
        rw [hd] at this
        simpa [dstIn] using this
      rw [fillOps_ne u r (k + 1) _ (hf'.2.2 t hd), hd, put_eq a _ hlt]
      rfl
    | false =>
      have hd : o.dst ≠ some t := fun e => by rw [hitsB_eq.2 e] at hb; cases hb
      show _ = fillAt r u (k + 1) b t
      exact fillAt_eq u t r (k + 1) _ b (by rw [put_size]; exact hs) (by rw [put_ne a _ _ hd]; exact h) (by rw [put_size]; exact hf'.1)

section
variable {P : Program} {ops : Array Oper} {w0 : World} {V : Nat → Value → World → Prop} {a0 : Act}

/-- As OpLeaves, of an operation that nothing guards, over what its operands are. -/
def EvLeaves (P : Program) (V : Value → World → Prop) (o : Oper) (ev : Operand → Value) (w : World) : Prop :=
  (∃ v w', (execOp ev o).run P w = .ok (.value v) w' ∧ Ext w w' ∧ V v w') ∨
   (∃ w', (execOp ev o).run P w = .ok .skip w' ∧ Ext w w' ∧ V undef w') ∨
   (∃ f args w', (execOp ev o).run P w = .ok (.enter f args) w' ∧ Calls P f args w' fun e w'' => ∃ v, e = .returned v ∧ Ext w w'' ∧ V v w'')
theorem ev_val {o : Oper} {ev : Operand → Value} {w : World} {Vi : Value → World → Prop} {v : Value} (h : (execOp ev o).run P w = .ok (.value v) w) (hv : Vi v w) : EvLeaves P Vi o ev w :=
  .inl ⟨v, w, h, Ext.rfl' w, hv⟩
theorem ev_new {o : Oper} {ev : Operand → Value} {w w' : World} {Vi : Value → World → Prop} {v : Value} (h : (execOp ev o).run P w = .ok (.value v) w') (hE : Ext w w') (hv : Vi v w') : EvLeaves P Vi o ev w :=
  .inl ⟨v, w', h, hE, hv⟩
theorem ev_call {o : Oper} {ev : Operand → Value} {w : World} {Vi : Value → World → Prop} {f : FuncId} {args : Array Value} (h : (execOp ev o).run P w = .ok (.enter f args) w)
    (hc : Calls P f args w fun e w'' => ∃ v, e = .returned v ∧ Ext w w'' ∧ Vi v w'') : EvLeaves P Vi o ev w :=
  .inr (.inr ⟨f, args, w, h, hc⟩)

/-- The fact of one operation, over its operands. -/
theorem opLeaves_ev {r0 : List Oper} {u : Nat → Value} {Vi : Value → World → Prop} {o : Oper} {w : World} (hf : fillOk r0 a0.tmps.size = true) (hg : o.guard = none)
    (h : ∀ ev : Operand → Value, (∀ v, ev (.const v) = v) → (∀ g, ev (.global g) = .pointer (some ⟨g, 0, none⟩)) → (∀ f, ev (.func f) = .func (.func f) #[] #[]) → (∀ t, ev (.tmp t) = fillAt r0 u 0 a0 t) → EvLeaves P Vi o ev w) : OpLeaves P ops Vi o (fillOps r0 u 0 a0) w :=
  .inl ⟨by simp [Region.wanted, hg], h (fillOps r0 u 0 a0).eval (fun _ => rfl) (fun _ => rfl) (fun _ => rfl) fun t => fillAt_eq u t r0 0 a0 a0 rfl rfl hf⟩

theorem wp_region_tailsE {Q : Exit → Act → World → Prop} {id : Nat} {w : World} (V : Nat → Value → World → Prop) (n : Nat) (hm : P.follows .mixedOrders = true)
    (hs : Region.sinkB .any ops n = true) (hc : Region.chainB .any ops n = true) (hn : n < ops.size) (hseq : Region.seqB .any ops (ops.size - n) n (headDone n (ops.size - n)) = true)
    (hd : dstsOk ((ops.toList.take n).map (·.dst)) = true) (ha : aftersOk ops.toList 0 = true) (hf : fillOk (ops.toList.take n) a0.tmps.size = true)
    (hst : ∀ k v w1 w2, Ext w w1 → Ext w1 w2 → V k v w1 → V k v w2) (hl : fillOk (ops.toList.take n) a0.tmps.size = true → LocalsR P ops w V (ops.toList.take n) a0 (ops.toList.take n) 0)
    (hE : ∀ u w', Ext w w' → (∀ k, k < n → V k (u k) w') → wpList P ops Q (ops.toList.drop n) (fillOps (ops.toList.take n) u 0 a0) w') : (Code.region id ops true).wp P Q a0 w :=
  wp_region_tails V n hm hs hc hn hseq hd ha hst (hl hf) hE
theorem wp_region_localsE {Q : Exit → Act → World → Prop} {id : Nat} {w : World} (V : Nat → Value → World → Prop) (hm : P.follows .mixedOrders = true)
    (hd : dstsOk (ops.toList.map (·.dst)) = true) (ha : aftersOk ops.toList 0 = true) (hf : fillOk ops.toList a0.tmps.size = true)
    (hst : ∀ k v w1 w2, Ext w w1 → Ext w1 w2 → V k v w1 → V k v w2) (hl : fillOk ops.toList a0.tmps.size = true → Locals P ops w V a0 ops.toList 0)
    (hE : ∀ u w', Ext w w' → (∀ k, k < ops.size → V k (u k) w') → Q .normal (fillOps ops.toList u 0 a0) w') : (Code.region id ops true).wp P Q a0 w :=
  wp_region_locals V hm hd ha hst (hl hf) hE
end
end Go

namespace Go
open Go.Proofs.YtmnpbpfeoackiaaDoor

section
variable {P : Program} {ops : Array Oper} {a0 : Act}
theorem wp_region_stageE {Q : Exit → Act → World → Prop} {id : Nat} {w : World} (cs : List Nat) (J : List Bool → World → Prop) (V : List Bool → Nat → Value → World → Prop) (hcs : ∀ (p q i : Nat), cs[p]? = some i → cs[q]? = some i → q = p) (hin : ∀ c ∈ cs, c < ops.size) (hm : P.follows .mixedOrders = true)
    (hd : dstsOk (ops.toList.map (·.dst)) = true) (ha : aftersOkB ops.toList 0 = true) (hf : fillOk ops.toList a0.tmps.size = true)
    (h00 : J (cs.map fun _ => false) w.drew) (hJ : ∀ (bs : List Bool) w1 w2, J bs w1 → Ext w1 w2 → J bs w2)
    (hst : ∀ (bs : List Bool) (k : Nat) v w1 w2, J bs w1 → Ext w1 w2 → V bs k v w1 → V bs k v w2) (hl : fillOk ops.toList a0.tmps.size = true → LocalsQ P ops J V cs a0 ops.toList 0)
    (hE : ∀ u w', J (cs.map fun _ => true) w' → (∀ k, k < ops.size → V (cs.map fun _ => true) k (u k) w') → Q .normal (fillOps ops.toList u 0 a0) w') : (Code.region id ops true).wp P Q a0 w :=
  wp_region_stage cs J V hcs hin hm hd ha h00 hJ hst (hl hf) hE
end
end Go
