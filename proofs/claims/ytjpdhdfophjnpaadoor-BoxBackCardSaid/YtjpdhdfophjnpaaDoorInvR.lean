/-
  A region that draws its order, whose operations move the world along a relation (not only by adding blocks): a store is such an operation too. One local fact an operation.
-/
import Derived.Test.YtjpdhdfophjnpaaDoorMgC
namespace Go
open Go.Proofs.YtjpdhdfophjnpaaDoor

/-- A relation that a region's operations keep to. -/
structure StepsRel (R : World → World → Prop) : Prop where
  refl : ∀ w, R w w
  trans : ∀ {a b c}, R a b → R b c → R a c
  drew : ∀ w, R w w.drew
section
variable {P : Program} {ops : Array Oper} {md : Region.Mode} {w0 : World} {V : Nat → Value → World → Prop} {a0 : Act} {R : World → World → Prop}

/-- From world w, frame a: operation o leaves a value of which V holds, and adds to the world alone. -/
def OpLeavesG (P : Program) (R : World → World → Prop) (ops : Array Oper) (V : Value → World → Prop) (o : Oper) (a : Act) (w : World) : Prop :=
  (Region.wanted o (yielded ops a.tmps) = true ∧
    ((∃ v w', (execOp a.eval o).run P w = .ok (.value v) w' ∧ R w w' ∧ V v w') ∨
     (∃ w', (execOp a.eval o).run P w = .ok .skip w' ∧ R w w' ∧ V undef w') ∨
     (∃ f args w', (execOp a.eval o).run P w = .ok (.enter f args) w' ∧ Calls P f args w' fun e w'' => ∃ v, e = .returned v ∧ R w w'' ∧ V v w''))) ∨
  (Region.wanted o (yielded ops a.tmps) = false ∧ V undef w)

theorem OpLeavesG.wpOp (hR : StepsRel R) {i : Nat} {o : Oper} {a : Act} {Vi : Value → World → Prop} {Q : Exit → Act → World → Prop} (hi : ops[i]? = some o) {w : World} (hy : OpLeavesG P R ops Vi o a w)
    {K : Act → World → Prop} (h : ∀ v w', R w w' → Vi v w' → K (a.put o.dst v) w') : wpOp P ops Q i K a w := by
  unfold Go.wpOp
  simp only [hi]
  rcases hy with ⟨hw, hv⟩ | ⟨hw, hv⟩
  · simp only [hw, if_true]
    left
    unfold Oper.wp
    rcases hv with ⟨v, w', hr, hE, hv⟩ | ⟨w', hr, hE, hv⟩ | ⟨f, args, w', hr, hc⟩
    · rw [hr]; exact h v w' hE hv
    · rw [hr]; exact h _ w' hE hv
    · rw [hr, Oper.upon_enter]
      refine hc.mono fun e w'' he => ?_
      obtain ⟨v, rfl, hE, hv⟩ := he
      exact h v w'' hE hv
  · simp only [hw, Bool.false_eq_true, if_false]; exact h _ w (hR.refl w) hv

/-- What is to be shown of operation i. -/
def LocalG (P : Program) (R : World → World → Prop) (ops : Array Oper) (w0 : World) (V : Nat → Value → World → Prop) (a0 : Act) (i : Nat) (o : Oper) : Prop :=
  ∀ (u : Nat → Value) (w : World), R w0 w → (∀ k, (o.after.any fun e => Region.binds .any e && e.on == k) = true → V k (u k) w) → OpLeavesG P R ops (V i) o (fillOps ops.toList u 0 a0) w
def LocalsG (P : Program) (R : World → World → Prop) (ops : Array Oper) (w0 : World) (V : Nat → Value → World → Prop) (a0 : Act) : List Oper → Nat → Prop
  | [], _ => True
  | o :: r, i => LocalG P R ops w0 V a0 i o ∧ LocalsG P R ops w0 V a0 r (i + 1)
theorem localsG_nil {i} : LocalsG P R ops w0 V a0 [] i := trivial
theorem localsG_cons {o : Oper} {r : List Oper} {i : Nat} (h : LocalG P R ops w0 V a0 i o) (hr : LocalsG P R ops w0 V a0 r (i + 1)) : LocalsG P R ops w0 V a0 (o :: r) i := ⟨h, hr⟩
theorem localsG_at : ∀ (r : List Oper) (k i : Nat) (o : Oper), LocalsG P R ops w0 V a0 r k → r[i]? = some o → LocalG P R ops w0 V a0 (k + i) o
  | [], _, _, _, _, h => by cases h
  | o' :: r, k, 0, o, hl, h => by obtain rfl : o' = o := by simpa using h
                                  exact hl.1
  | o' :: r, k, i + 1, o, hl, h => by
    rw [show k + (i + 1) = k + 1 + i by omega]
    exact localsG_at r (k + 1) i o hl.2 (by simpa using h)
theorem wpAny_rel (hR : StepsRel R) {Q : Exit → Act → World → Prop} (hd : dstsOk (ops.toList.map (·.dst)) = true) (ha : aftersOk ops.toList 0 = true)
    (hst : ∀ k v w w', R w0 w → R w w' → V k v w → V k v w') (hl : LocalsG P R ops w0 V a0 ops.toList 0)
    (hE : ∀ u w, R w0 w → (∀ k, k < ops.size → V k (u k) w) → Q .normal (fillOps ops.toList u 0 a0) w) :
    ∀ (fuel : Nat) (listed : Array Bool) (u : Nat → Value) (w : World), listed.size = ops.size → listed.toList.count true + fuel = ops.size → R w0 w →
      (∀ k, listed.getD k false = true → V k (u k) w) → wpAny P .any ops Q fuel listed (fillOps ops.toList u 0 a0) w := by
  intro fuel
  induction fuel with
  | zero =>
    intro listed u w hsz hc hw hV
    have hall : ∀ k, k < ops.size → listed.getD k false = true := by
      intro k hk
      have h1 : ∀ b ∈ listed.toList, true = b := List.count_eq_length.1 (by simpa [hsz] using hc)
      have hk' : k < listed.size := by omega
      rw [Array.getD_eq_getD_getElem?, Array.getElem?_eq_getElem hk']
      exact (h1 _ (by simp)).symm
    refine ⟨?_, hE u w hw fun k hk => hV k (hall k hk)⟩
    rw [List.eq_nil_iff_forall_not_mem]
    intro j hj
    obtain ⟨h0, o, ho, _⟩ := mem_ready.1 hj
    have hj' : j < ops.size := (Array.getElem?_eq_some_iff.1 ho).1
    have := hall j hj'
    have hk' : j < listed.size := by omega
    rw [Array.getD_eq_getD_getElem?, Array.getElem?_eq_getElem hk'] at this h0
    simp at this h0
    rw [this] at h0; cases h0
  | succ fuel ih =>
    intro listed u w hsz hc hw hV
    refine ⟨fun hr => hE u w hw fun k hk => ?_, fun i hi => ?_⟩
    · -- nothing is ready: all is listed
      refine hV k ?_
      have : ∀ k, k < ops.size → listed.getD k false = true := by
        intro k
        induction k using Nat.strongRecOn with
        | ind k ihk =>
          intro hk
          cases hb : listed.getD k false with
          | true => rfl
          | false =>
            exfalso
            have hk' : k < listed.size := by omega
            have hmem : k ∈ Region.ready .any ops listed := by
              rw [mem_ready]
              refine ⟨?_, ops[k], Array.getElem?_eq_getElem hk, fun e he _ => ?_⟩
              · rw [Array.getD_eq_getD_getElem?, Array.getElem?_eq_getElem hk'] at hb ⊢
                simpa using hb
              · have := afters_at ops.toList 0 k ops[k] ha (by simp [hk]) e he
                exact ihk e.on (by omega) (by omega)
            rw [hr] at hmem
            cases hmem
      exact this k hk
    · obtain ⟨h0, o, ho, hall⟩ := mem_ready.1 hi
      have hi' : i < ops.size := (Array.getElem?_eq_some_iff.1 ho).1
      have hk' : i < listed.size := by omega
      have ho' : ops.toList[i]? = some o := by rw [Array.getElem?_toList]; exact ho
      have hL := localsG_at ops.toList 0 i o hl ho'
      rw [Nat.zero_add] at hL
      have hs := hL u w hw (fun k hk => by
        rw [Array.any_eq_true] at hk
        obtain ⟨q, hq, he⟩ := hk
        rw [Bool.and_eq_true] at he
        have := hall _ (Array.getElem_mem hq) he.1
        rw [beq_iff_eq.1 he.2] at this
        exact hV k this)
      refine hs.wpOp hR ho fun v w' hE' hv => ?_
      rw [fill_upd u v ops.toList 0 i a0 o hd ho', Nat.zero_add]
      refine ih (listed.setIfInBounds i true) (upd u i v) w' (by simpa using hsz) ?_ (hR.trans hw hE') fun k hk => ?_
      · have hf : listed.toList[i]? = some false := by
          rw [Array.getD_eq_getD_getElem?, Array.getElem?_eq_getElem hk'] at h0
          rw [Array.getElem?_toList, Array.getElem?_eq_getElem hk']
          simpa using h0
        have := count_set listed.toList i hf
        rw [Array.toList_setIfInBounds, this]
        omega
      · by_cases hki : k = i
        · subst hki; rw [upd_same]; exact hv
        · rw [upd_ne hki]
          refine hst k _ w w' hw hE' (hV k ?_)
          rw [Array.getD_eq_getD_getElem?, Array.getElem?_setIfInBounds_ne (Ne.symm hki)] at hk
          rw [Array.getD_eq_getD_getElem?]
          exact hk

theorem rel_val (hR : StepsRel R) {o : Oper} {a : Act} {w : World} {Vi : Value → World → Prop} {v : Value} (hw : Region.wanted o (yielded ops a.tmps) = true) (h : (execOp a.eval o).run P w = .ok (.value v) w) (hv : Vi v w) : OpLeavesG P R ops Vi o a w :=
  .inl ⟨hw, .inl ⟨v, w, h, hR.refl w, hv⟩⟩
theorem rel_new {o : Oper} {a : Act} {w w' : World} {Vi : Value → World → Prop} {v : Value} (hw : Region.wanted o (yielded ops a.tmps) = true) (h : (execOp a.eval o).run P w = .ok (.value v) w') (hE : R w w') (hv : Vi v w') : OpLeavesG P R ops Vi o a w :=
  .inl ⟨hw, .inl ⟨v, w', h, hE, hv⟩⟩
theorem rel_skip {o : Oper} {a : Act} {w w' : World} {Vi : Value → World → Prop} (hw : Region.wanted o (yielded ops a.tmps) = true) (h : (execOp a.eval o).run P w = .ok .skip w') (hE : R w w') (hv : Vi undef w') : OpLeavesG P R ops Vi o a w :=
  .inl ⟨hw, .inr (.inl ⟨w', h, hE, hv⟩)⟩
theorem rel_call {o : Oper} {a : Act} {w : World} {Vi : Value → World → Prop} {f : FuncId} {args : Array Value} (hw : Region.wanted o (yielded ops a.tmps) = true) (h : (execOp a.eval o).run P w = .ok (.enter f args) w)
    (hc : Calls P f args w fun e w'' => ∃ v, e = .returned v ∧ R w w'' ∧ Vi v w'') : OpLeavesG P R ops Vi o a w :=
  .inl ⟨hw, .inr (.inr ⟨f, args, w, h, hc⟩)⟩
/-- The whole region. -/
theorem wp_region_rel (hR : StepsRel R) {Q : Exit → Act → World → Prop} {id : Nat} {w : World} (V : Nat → Value → World → Prop) (hm : P.follows .mixedOrders = true)
    (hd : dstsOk (ops.toList.map (·.dst)) = true) (ha : aftersOk ops.toList 0 = true)
    (hst : ∀ k v w1 w2, R w w1 → R w1 w2 → V k v w1 → V k v w2) (hl : LocalsG P R ops w V a0 ops.toList 0)
    (hE : ∀ u w', R w w' → (∀ k, k < ops.size → V k (u k) w') → Q .normal (fillOps ops.toList u 0 a0) w') : (Code.region id ops true).wp P Q a0 w := by
  have h0 : fillOps ops.toList (fun k => ((ops.toList[k]?).bind fun o => o.dst.bind fun d => a0.tmps[d]?).getD undef) 0 a0 = a0 := by
    refine fill_id _ ops.toList 0 a0 fun j o ho => ?_
    simp only [Nat.zero_add, ho, Option.bind_some]
    cases hq : o.dst with
    | none => rfl
    | some d =>
      simp only [Act.put, Option.bind_some]
      by_cases hlt : d < a0.tmps.size
      · rw [Array.getElem?_eq_getElem hlt]
        simp [Array.setIfInBounds, hlt]
      · simp [Array.setIfInBounds, hlt]
  refine wp_region_any hm ?_
  rw [← h0]
  refine wpAny_rel hR (w0 := w) hd ha hst hl hE ops.size _ _ _ (by simp) (by simp [List.count_replicate]) (hR.drew w) fun k hk => ?_
  exfalso
  rw [Array.getD_eq_getD_getElem?, Array.getElem?_replicate] at hk
  split at hk <;> simp at hk
end
end Go
namespace Go.Proofs.YtjpdhdfophjnpaaDoor
open Go Go.RowKit

/-- Block b is a variable that holds v. -/
def Has (b : Nat) (v : Value) (W : World) : Prop := W.cell? ⟨b, 0, none⟩ = some v ∧ W.frozen? ⟨b, 0, none⟩ = false
theorem Has.lt {b : Nat} {v : Value} {W : World} (h : Has b v W) : b < W.heap.size := World.block_lt_of_cell? _ _ h.1
theorem Has.ext {b : Nat} {v : Value} {W W' : World} (h : Has b v W) (hE : Ext W W') : Has b v W' :=
  ⟨((bcell hE).1 b 0 h.lt).trans h.1, ((bcell hE).2 b 0 h.lt).trans h.2⟩
theorem Has.set {b : Nat} {v : Value} {W : World} (h : Has b v W) (u : Value) : Has b u (W.setCell ⟨b, 0, none⟩ u) :=
  ⟨cell_set_same h.1 u, by have := h.2; simpa [go_sem] using this⟩
theorem Has.setNe {b c : Nat} {v : Value} {W : World} (h : Has b v W) (hne : b ≠ c) (u : Value) : Has b v (W.setCell ⟨c, 0, none⟩ u) :=
  ⟨(World.cell?_of_block (a := ⟨b, 0, none⟩) (Below.heap_setCell W ⟨c, 0, none⟩ u b hne)).trans h.1, (World.frozen?_of_block (a := ⟨b, 0, none⟩) (Below.heap_setCell W ⟨c, 0, none⟩ u b hne)).trans h.2⟩
/-- From w to w': what lies ahead of block g stands, what lies from block h on stands, and what each of Ks says stands. -/
structure Moves (g h : Nat) (Ks : List (World → Prop)) (w w' : World) : Prop where
  below : Below g w w'
  above : ∀ j, h ≤ j → j < w.heap.size → w'.heap[j]? = w.heap[j]?
  keeps : ∀ K ∈ Ks, K w → K w'
theorem Moves.size {g h : Nat} {Ks : List (World → Prop)} {w w' : World} (m : Moves g h Ks w w') : w.heap.size ≤ w'.heap.size := m.below.size
theorem moves_steps (g h : Nat) (Ks : List (World → Prop)) (hK : ∀ K ∈ Ks, ∀ w, K w → K w.drew) : StepsRel (Moves g h Ks) where
  refl _ := ⟨Below.refl _ _, fun _ _ _ => rfl, fun _ _ h => h⟩
  trans a b := ⟨a.below.trans b.below, fun j hj hl => (b.above j hj (Nat.lt_of_lt_of_le hl a.below.size)).trans (a.above j hj hl), fun K hK hk => b.keeps K hK (a.keeps K hK hk)⟩
  drew w := ⟨(Below.refl _ _).drew, fun _ _ _ => rfl, fun K hm hk => hK K hm w hk⟩
theorem moves_ext {g h : Nat} {Ks : List (World → Prop)} {w w' : World} (hg : g ≤ w.heap.size) (hE : Ext w w') (hK : ∀ K ∈ Ks, K w → K w') : Moves g h Ks w w' :=
  ⟨hE.mono hg, fun j _ hl => hE.block j hl, hK⟩
theorem moves_set {g h b : Nat} {Ks : List (World → Prop)} {w : World} (hg : g ≤ b) (hb : b < h) (u : Value) (hK : ∀ K ∈ Ks, K w → K (w.setCell ⟨b, 0, none⟩ u)) : Moves g h Ks w (w.setCell ⟨b, 0, none⟩ u) :=
  ⟨(Below.refl _ _).setCell (p := ⟨b, 0, none⟩) hg u, fun j hj _ => Below.heap_setCell w ⟨b, 0, none⟩ u j (by show j ≠ b; omega), hK⟩
theorem Moves.cell {g h : Nat} {Ks : List (World → Prop)} {w w' : World} (m : Moves g h Ks w w') {b : Nat} {v : Value} (hb : h ≤ b) (hc : w.cell? ⟨b, 0, none⟩ = some v) : w'.cell? ⟨b, 0, none⟩ = some v :=
  (World.cell?_of_block (a := ⟨b, 0, none⟩) (m.above b hb (World.block_lt_of_cell? _ _ hc))).trans hc
theorem rd_one {W : World} {b : Nat} {u : Value} (hc : W.cell? ⟨b, 0, none⟩ = some u) : Rd W W.heap.size 1 (.slice (some ⟨b, 0, none⟩) 1 1) 1 [u] :=
  ⟨_, 1, rfl, by decide, by simp, fun _ => ⟨b, 0, rfl, World.block_lt_of_cell? _ _ hc, fun j u' hj => by
    cases j with
    | zero => obtain rfl : u = u' := by simpa using hj
              exact hc
    | succ j => simp at hj⟩⟩
end Go.Proofs.YtjpdhdfophjnpaaDoor
