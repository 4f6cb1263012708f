/-
  A region that draws its order and whose world is told by which operations have run: if every operation, run where what it waits for has run, leaves its one value and the world that is told next, then behind the region all values stand and the world is the last one. No order is walked.
-/
import Derived.Test.YtmnpbpfeoackiaaInv2
namespace Go
open Go.Proofs.Ytmnpbpfeoackiaa

section
variable {P : Program} {ops : Array Oper} {a0 : Act}

def setL (L : Nat → Bool) (i : Nat) : Nat → Bool := fun k => if k = i then true else L k
/-- What operation j waits for. -/
def waitsFor (ops : Array Oper) (j k : Nat) : Bool := ((ops[j]?).map fun o => o.after.any fun e => Region.binds .any e && e.on == k).getD false

/-- What is to be shown of operation i. -/
def LocalS (P : Program) (ops : Array Oper) (c : Nat → Value) (wOf : (Nat → Bool) → World) (a0 : Act) (i : Nat) (o : Oper) : Prop :=
  ∀ (u : Nat → Value) (L : Nat → Bool), L i = false → (∀ j k, L j = true → waitsFor ops j k = true → L k = true) → (∀ k, waitsFor ops i k = true → L k = true ∧ u k = c k) →
    Region.wanted o (yielded ops (fillOps ops.toList u 0 a0).tmps) = true ∧
    ((execOp (fillOps ops.toList u 0 a0).eval o).run P (wOf L) = .ok (.value (c i)) (wOf (setL L i)) ∨
     (c i = undef ∧ (execOp (fillOps ops.toList u 0 a0).eval o).run P (wOf L) = .ok .skip (wOf (setL L i))) ∨
     (∃ f args, (execOp (fillOps ops.toList u 0 a0).eval o).run P (wOf L) = .ok (.enter f args) (wOf L) ∧ Calls P f args (wOf L) fun e w'' => e = .returned (c i) ∧ w'' = wOf (setL L i)))
def LocalsS (P : Program) (ops : Array Oper) (c : Nat → Value) (wOf : (Nat → Bool) → World) (a0 : Act) : List Oper → Nat → Prop
  | [], _ => True
  | o :: r, i => LocalS P ops c wOf a0 i o ∧ LocalsS P ops c wOf a0 r (i + 1)
variable {c : Nat → Value} {wOf : (Nat → Bool) → World}
theorem localsS_nil {i} : LocalsS P ops c wOf a0 [] i := trivial
theorem localsS_cons {o : Oper} {r : List Oper} {i : Nat} (h : LocalS P ops c wOf a0 i o) (hr : LocalsS P ops c wOf a0 r (i + 1)) : LocalsS P ops c wOf a0 (o :: r) i := ⟨h, hr⟩
theorem localsS_at : ∀ (r : List Oper) (k i : Nat) (o : Oper), LocalsS P ops c wOf a0 r k → r[i]? = some o → LocalS P ops c wOf a0 (k + i) o
  | [], _, _, _, _, h => by cases h
  | o' :: r, k, 0, o, hl, h => by obtain rfl : o' = o := by simpa using h
                                  exact hl.1
  | o' :: r, k, i + 1, o, hl, h => by
    rw [show k + (i + 1) = k + 1 + i by omega]
    exact localsS_at r (k + 1) i o hl.2 (by simpa using h)

theorem waits_at {j k : Nat} {o : Oper} (ho : ops[j]? = some o) (h : waitsFor ops j k = true) : ∃ e ∈ o.after, Region.binds .any e = true ∧ e.on = k := by
  unfold waitsFor at h
  rw [ho] at h
  simp only [Option.map_some, Option.getD_some] at h
  rw [Array.any_eq_true] at h
  obtain ⟨q, hq, he⟩ := h
  rw [Bool.and_eq_true] at he
  exact ⟨_, Array.getElem_mem hq, he.1, by simpa using he.2⟩

theorem wpAny_states {Q : Exit → Act → World → Prop} (hd : dstsOk (ops.toList.map (·.dst)) = true) (ha : aftersOk ops.toList 0 = true) (hl : LocalsS P ops c wOf a0 ops.toList 0)
    (hE : ∀ u L, (∀ k, k < ops.size → L k = true ∧ u k = c k) → Q .normal (fillOps ops.toList u 0 a0) (wOf L)) :
    ∀ (fuel : Nat) (listed : Array Bool) (u : Nat → Value), listed.size = ops.size → listed.toList.count true + fuel = ops.size →
      (∀ j k, listed.getD j false = true → waitsFor ops j k = true → listed.getD k false = true) →
      (∀ k, listed.getD k false = true → u k = c k) → wpAny P .any ops Q fuel listed (fillOps ops.toList u 0 a0) (wOf fun k => listed.getD k false) := by
  intro fuel
  induction fuel with
  | zero =>
    intro listed u hsz hc hcl hV
    have hall : ∀ k, k < ops.size → listed.getD k false = true := by
      intro k hk
      have h1 : ∀ b ∈ listed.toList, true = b := List.count_eq_length.1 (by simpa [hsz] using hc)
      have hk' : k < listed.size := by omega
      rw [Array.getD_eq_getD_getElem?, Array.getElem?_eq_getElem hk']
      exact (h1 _ (by simp)).symm
    refine ⟨?_, hE u _ fun k hk => ⟨hall k hk, hV k (hall k hk)⟩⟩
    rw [List.eq_nil_iff_forall_not_mem]
    intro j hj
    obtain ⟨h0, o, ho, _⟩ := mem_ready.1 hj
    have hj' : j < ops.size := (Array.getElem?_eq_some_iff.1 ho).1
    have := hall j hj'
    have hk' : j < listed.size := by omega
    rw [Array.getD_eq_getD_getElem?, Array.getElem?_eq_getElem hk'] at this h0
    simp at this h0
    rw [this] at h0; cases h0
  | succ fuel ih =>
    intro listed u hsz hc hcl hV
    refine ⟨fun hr => hE u _ fun k hk => ?_, fun i hi => ?_⟩
    · have : ∀ k, k < ops.size → listed.getD k false = true := by
        intro k
        induction k using Nat.strongRecOn with
        | ind k ihk =>
          intro hk
          cases hb : listed.getD k false with
          | true => rfl
          | false =>
            exfalso
            have hk' : k < listed.size := by omega
            have hmem : k ∈ Region.ready .any ops listed := by
              rw [mem_ready]
              refine ⟨?_, ops[k], Array.getElem?_eq_getElem hk, fun e he _ => ?_⟩
              · rw [Array.getD_eq_getD_getElem?, Array.getElem?_eq_getElem hk'] at hb ⊢
                simpa using hb
              · have := afters_at ops.toList 0 k ops[k] ha (by simp [hk]) e he
                exact ihk e.on (by omega) (by omega)
            rw [hr] at hmem
            cases hmem
      exact ⟨this k hk, hV k (this k hk)⟩
    · obtain ⟨h0, o, ho, hall⟩ := mem_ready.1 hi
      have hi' : i < ops.size := (Array.getElem?_eq_some_iff.1 ho).1
      have hk' : i < listed.size := by omega
      have ho' : ops.toList[i]? = some o := by rw [Array.getElem?_toList]; exact ho
      have hL := localsS_at ops.toList 0 i o hl ho'
      rw [Nat.zero_add] at hL
      have hi0 : listed.getD i false = false := by
        rw [Array.getD_eq_getD_getElem?, Array.getElem?_eq_getElem hk'] at h0 ⊢
        simpa using h0
      have hdep : ∀ k, waitsFor ops i k = true → listed.getD k false = true := fun k hk => by
        obtain ⟨e, he, hb, rfl⟩ := waits_at ho hk
        exact hall e he hb
      have hset : (fun k => (listed.setIfInBounds i true).getD k false) = setL (fun k => listed.getD k false) i := by
        funext k
        unfold setL
        by_cases hki : k = i
        · subst hki
          rw [if_pos rfl, Array.getD_eq_getD_getElem?, Array.getElem?_setIfInBounds_self_of_lt hk']
          rfl
        · rw [if_neg hki, Array.getD_eq_getD_getElem?, Array.getElem?_setIfInBounds_ne (Ne.symm hki)]
          exact (Array.getD_eq_getD_getElem? ..).symm
      obtain ⟨hw, hv⟩ := hL u (fun k => listed.getD k false) hi0 hcl (fun k hk => ⟨hdep k hk, hV k (hdep k hk)⟩)
      have next : wpAny P .any ops Q fuel (listed.setIfInBounds i true) ((fillOps ops.toList u 0 a0).put o.dst (c i)) (wOf (setL (fun k => listed.getD k false) i)) := by
        rw [fill_upd u (c i) ops.toList 0 i a0 o hd ho', Nat.zero_add, ← hset]
        refine ih (listed.setIfInBounds i true) (upd u i (c i)) (by simpa using hsz) ?_ ?_ fun k hk => ?_
        · have hf : listed.toList[i]? = some false := by
            rw [Array.getD_eq_getD_getElem?, Array.getElem?_eq_getElem hk'] at h0
            rw [Array.getElem?_toList, Array.getElem?_eq_getElem hk']
            simpa using h0
          have := count_set listed.toList i hf
          rw [Array.toList_setIfInBounds, this]
          omega
        · intro j k hj hk
          have e1 := congrFun hset j
          have e2 := congrFun hset k
          rw [e2]
          rw [e1] at hj
          unfold setL at hj ⊢
          by_cases hki : k = i
          · rw [if_pos hki]
          · rw [if_neg hki]
            by_cases hji : j = i
            · subst hji; exact hdep k hk
            · rw [if_neg hji] at hj; exact hcl j k hj hk
        · by_cases hki : k = i
          · subst hki; exact upd_same _ _ _
          · rw [upd_ne hki]
            have e2 := congrFun hset k
            rw [e2] at hk
            unfold setL at hk
            rw [if_neg hki] at hk
            exact hV k hk
      unfold Go.wpOp
      simp only [ho, hw, if_true]
      left
      unfold Oper.wp
      rcases hv with hr | ⟨hu, hr⟩ | ⟨f, args, hr, hcall⟩
      · rw [hr]; exact next
      · rw [hr]; rw [hu] at next; exact next
      · rw [hr, Oper.upon_enter]
        refine hcall.mono fun e w'' he => ?_
        obtain ⟨rfl, rfl⟩ := he
        exact next

/-- The whole region. -/
theorem wp_region_states {Q : Exit → Act → World → Prop} {id : Nat} {w : World} (c : Nat → Value) (wOf : (Nat → Bool) → World) (hm : P.follows .mixedOrders = true)
    (hd : dstsOk (ops.toList.map (·.dst)) = true) (ha : aftersOk ops.toList 0 = true) (hw : wOf (fun _ => false) = w.drew) (hl : LocalsS P ops c wOf a0 ops.toList 0)
    (hE : ∀ u L, (∀ k, k < ops.size → L k = true ∧ u k = c k) → Q .normal (fillOps ops.toList u 0 a0) (wOf L)) : (Code.region id ops true).wp P Q a0 w := by
  have h0 : fillOps ops.toList (fun k => ((ops.toList[k]?).bind fun o => o.dst.bind fun d => a0.tmps[d]?).getD undef) 0 a0 = a0 := by
    refine fill_id _ ops.toList 0 a0 fun j o ho => ?_
    simp only [Nat.zero_add, ho, Option.bind_some]
    cases hq : o.dst with
    | none => rfl
    | some d =>
      simp only [Act.put, Option.bind_some]
      by_cases hlt : d < a0.tmps.size
      · rw [Array.getElem?_eq_getElem hlt]
        simp [Array.setIfInBounds, hlt]
      · simp [Array.setIfInBounds, hlt]
  have hr : ∀ k, (Array.replicate ops.size false).getD k false = false := fun k => by
    rw [Array.getD_eq_getD_getElem?, Array.getElem?_replicate]
    split <;> rfl
  refine wp_region_any hm ?_
  have hw2 : (wOf fun k => (Array.replicate ops.size false).getD k false) = w.drew := by rw [← hw]; congr 1; funext k; exact hr k
  have := wpAny_states (Q := Q) hd ha hl hE ops.size (Array.replicate ops.size false) (fun k => ((ops.toList[k]?).bind fun o => o.dst.bind fun d => a0.tmps[d]?).getD undef) (by simp) (by simp [List.count_replicate])
    (fun j k hj => by rw [hr] at hj; cases hj) (fun k hk => by rw [hr] at hk; cases hk)
  rw [h0, hw2] at this
  exact this
theorem setL_ne {L : Nat → Bool} {i k : Nat} (h : k ≠ i) : setL L i k = L k := if_neg h
theorem setL_eq {L : Nat → Bool} {i : Nat} : setL L i i = true := if_pos rfl
end
end Go
