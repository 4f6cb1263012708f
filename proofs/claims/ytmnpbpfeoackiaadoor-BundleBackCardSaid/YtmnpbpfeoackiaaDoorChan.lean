/-
  A channel with room in one goroutine: sends and receives at a region's step, on the machine's own steps; a walk over frames of ordinary calls. No condition.
-/
import Derived.Test.YtmnpbpfeoackiaaDoorGen
import Derived.Conc.LoneCalls
namespace Go
open Go.Proofs.YtmnpbpfeoackiaaDoor Go.RowKit Go.Conc

/-- What a code leads to, in the frame of an ordinary call. -/
def Code.wpN (P : Program) (c : Code) (Q : Exit → Act → World → Prop) (a : Act) (w : World) : Prop :=
  ∀ (b : Frame) (k : List Item) (cs : List Frame), b.kind = .normal →
    ∃ e a' w', Q e a' w' ∧ Arrives P (lone (b.at a (.code c :: k)) cs w) b k cs e a' w'
/-- .. and the rest of a region. -/
def regN (P : Program) (ops : Array Oper) (l : List Nat) (Q : Exit → Act → World → Prop) (a : Act) (w : World) : Prop :=
  ∀ (b : Frame) (k : List Item) (cs : List Frame), b.kind = .normal →
    ∃ e a' w', Q e a' w' ∧ Arrives P (lone (b.at a (.inRegion ops l :: k)) cs w) b k cs e a' w'

section
variable {P : Program} {Q : Exit → Act → World → Prop} {a : Act} {w : World}
theorem wpN_of_wp {c : Code} (h : c.wp P Q a w) : c.wpN P Q a w := fun b k cs _ => h b k cs
theorem wpN_seq {x y : Code} (h : x.wpN P (Exit.then (y.wpN P Q) Q) a w) : (Code.seq x y).wpN P Q a w := by
  intro b k cs hb
  obtain ⟨e, a₁, w₁, hq, harr⟩ := h b (.code y :: k) cs hb
  cases e with
  | normal =>
    obtain ⟨e₂, a₂, w₂, hq₂, harr₂⟩ := hq b k cs hb
    exact ⟨e₂, a₂, w₂, hq₂, .of_steps (.head step_seq harr) harr₂⟩
  | exit id => exact ⟨_, a₁, w₁, hq, .of_steps (.one step_seq) (.pass (x := .code y) rfl (fun _ _ => .inl (by simp)) harr)⟩
  | goto l => exact ⟨_, a₁, w₁, hq, .of_steps (.one step_seq) (.pass (x := .code y) rfl (fun _ _ => .inl (by simp)) harr)⟩
  | ret => exact ⟨_, a₁, w₁, hq, .of_steps (.one step_seq) (.pass (x := .code y) rfl (fun _ _ => .inl (by simp)) harr)⟩
  | panic ch => exact ⟨_, a₁, w₁, hq, .of_steps (.one step_seq) (.pass (x := .code y) rfl (fun _ _ => .inl (by simp)) harr)⟩
  | outgrown => exact ⟨_, a₁, w₁, hq, .of_steps (.one step_seq) (.pass (x := .code y) rfl (fun _ _ => .inl (by simp)) harr)⟩
/-- The first part holds no communication. -/
theorem wpN_seq_k {x y : Code} (h : ∀ K : Act → World → Prop, (∀ a w, y.wpN P Q a w → K a w) → x.wp P (Exit.then K Q) a w) : (Code.seq x y).wpN P Q a w :=
  wpN_seq (wpN_of_wp (h _ fun _ _ h => h))
theorem wpN_cond {c : Operand} {x y : Code} {t : Bool} (hc : a.eval c = .bool t) (h : (if t then x else y).wpN P Q a w) : (Code.cond c x y).wpN P Q a w :=
  fun b k cs hb => let ⟨e, a', w', q, r⟩ := h b k cs hb; ⟨e, a', w', q, .of_steps (.one (step_cond hc)) r⟩
theorem wpN_block {id : Nat} {c : Code} (h : c.wpN P (Exit.inBlock id Q) a w) : (Code.block id c).wpN P Q a w := by
  intro b k cs hb
  obtain ⟨e, a₁, w₁, hq, harr⟩ := h b (.inBlock id :: k) cs hb
  cases e with
  | normal => exact ⟨.normal, a₁, w₁, hq, .head step_block (Steps.trans harr (.one step_inBlock))⟩
  | exit id' =>
    by_cases hid : id' = id
    · simp only [Exit.inBlock, hid, if_true] at hq
      exact ⟨.normal, a₁, w₁, hq, .head step_block (harr k (by simp [exitTo, hid]))⟩
    · simp only [Exit.inBlock, hid, if_false] at hq
      refine ⟨.exit id', a₁, w₁, hq, fun k' hk => .head step_block (harr k' ?_)⟩
      have : (id == id') = false := by simp; exact fun h => hid h.symm
      simp [exitTo, this, hk]
  | goto l => exact ⟨_, a₁, w₁, hq, fun k' hk => .head step_block (harr k' (by simp [gotoIn, hk]))⟩
  | ret => exact ⟨_, a₁, w₁, hq, .of_steps (.one step_block) harr⟩
  | panic ch => exact ⟨_, a₁, w₁, hq, .of_steps (.one step_block) harr⟩
  | outgrown => exact ⟨_, a₁, w₁, hq, .of_steps (b := b) (k := k) (cs := cs) (e := .outgrown) (.one step_block) harr⟩
theorem wpN_loop {c : Code} (I : Act → World → Prop) (μ : Act → World → Nat) (h₀ : I a w)
    (round : ∀ a w, I a w → c.wpN P (Exit.then (fun a' w' => I a' w' ∧ μ a' w' < μ a w) Q) a w) : (Code.loop c).wpN P Q a w := by
  intro b k cs hb
  have key : ∀ n a w, μ a w = n → I a w →
      ∃ e a' w', Q e a' w' ∧ Arrives P (lone (b.at a (.code c :: .inLoop c :: k)) cs w) b k cs e a' w' := by
    intro n
    induction n using Nat.strongRecOn with
    | _ n ih =>
      intro a w hn hI
      obtain ⟨e, a₁, w₁, hq, harr⟩ := round a w hI b (.inLoop c :: k) cs hb
      cases e with
      | normal =>
        obtain ⟨hI₁, hlt⟩ := hq
        obtain ⟨e₂, a₂, w₂, hq₂, harr₂⟩ := ih (μ a₁ w₁) (hn ▸ hlt) a₁ w₁ rfl hI₁
        exact ⟨e₂, a₂, w₂, hq₂, .of_steps (Steps.trans harr (.one step_inLoop)) harr₂⟩
      | exit id => exact ⟨_, a₁, w₁, hq, .pass (x := .inLoop c) rfl (fun _ _ => .inl (by simp)) harr⟩
      | goto l => exact ⟨_, a₁, w₁, hq, .pass (x := .inLoop c) rfl (fun _ _ => .inl (by simp)) harr⟩
      | ret => exact ⟨_, a₁, w₁, hq, .pass (x := .inLoop c) rfl (fun _ _ => .inl (by simp)) harr⟩
      | panic ch => exact ⟨_, a₁, w₁, hq, .pass (x := .inLoop c) rfl (fun _ _ => .inl (by simp)) harr⟩
      | outgrown => exact ⟨_, a₁, w₁, hq, .pass (x := .inLoop c) rfl (fun _ _ => .inl (by simp)) harr⟩
  obtain ⟨e, a', w', hq, harr⟩ := key _ a w rfl h₀
  exact ⟨e, a', w', hq, .of_steps (.one step_loop) harr⟩
theorem calls_of_wpN {f : FuncId} {fn : Func} {c : Code} {args : Array Value} {R : Ending → World → Prop} (hf : P.funcs[f]? = some fn) (hb : fn.body = some c)
    (h : c.wpN P (bodyPost P fn R) { tmps := args ++ Array.replicate (fn.ntmps - args.size) undef, defers := [] } w) : Calls P f args w R := by
  intro cs
  let b : Frame := { (default : Frame) with fn := f, kind := .normal }
  have henter : Frame.enter P f args .normal =
      b.at { tmps := args ++ Array.replicate (fn.ntmps - args.size) undef, defers := [] } [.code c] := by
    simp [Frame.enter, Frame.at, hf, hb, b]
  obtain ⟨e, a', w', hq, harr⟩ := h b [] cs rfl
  rw [← henter] at harr
  cases e with
  | normal =>
    obtain ⟨hd, v, hr, hR⟩ := hq
    exact ⟨.returned v, w', _, hR, Steps.trans harr (.one step_end), rfl, rfl, hd, rfl, fn, hf, hr⟩
  | ret =>
    obtain ⟨hd, v, hr, hR⟩ := hq
    obtain ⟨todo, hs⟩ := harr
    exact ⟨.returned v, w', _, hR, hs, rfl, rfl, hd, rfl, fn, hf, hr⟩
  | panic chain =>
    obtain ⟨hd, hR⟩ := hq
    obtain ⟨todo, hs⟩ := harr
    exact ⟨.panicked chain, w', _, hR, hs, rfl, rfl, hd, fn, hf⟩
  | exit id => exact hq.elim
  | goto l => exact hq.elim
  | outgrown => exact ⟨.outgrown, w', b, hq, harr.resolve_left (by simp [b]), rfl, trivial⟩

/-! ### a region's steps -/
variable {ops : Array Oper} {i : Nat} {rest : List Nat} {o : Oper}
theorem wpN_region {id : Nat} (h : regN P ops (List.range ops.size) Q a w) : (Code.region id ops false).wpN P Q a w :=
  fun b k cs hb => let ⟨e, a', w', q, r⟩ := h b k cs hb; ⟨e, a', w', q, .of_steps (.one step_region) r⟩
theorem wpN_region_l {id : Nat} {l : List Nat} (hl : List.range ops.size = l) (h : regN P ops l Q a w) : (Code.region id ops false).wpN P Q a w := by subst hl; exact wpN_region h
theorem regN_nil (h : Q .normal a w) : regN P ops [] Q a w := fun _ _ _ _ => ⟨.normal, a, w, h, .one step_region_end⟩
theorem fin_at (b : Frame) (a : Act) (k : List Item) (ho : ops[i]? = some o) (v : Value) : (b.at a (.inRegion ops (i :: rest) :: k)).finish v = b.at (a.put o.dst v) (.inRegion ops rest :: k) := by
  rw [Frame.finish_at, ho]; rfl
theorem regN_val {v : Value} {w' : World} (ho : ops[i]? = some o) (hg : o.guard = none) (hr : (execOp a.eval o).run P w = .ok (.value v) w') (h : regN P ops rest Q (a.put o.dst v) w') : regN P ops (i :: rest) Q a w := by
  intro b k cs hb
  obtain ⟨e, a', w'', hq, harr⟩ := h b k cs hb
  have hw : Region.wanted o (yielded ops a.tmps) = true := by simp [Region.wanted, hg]
  have hgo := stepG_op (P := P) (b := b) (k := k) (cs := cs) (w := w) (rest := rest) ho hw
  refine ⟨e, a', w'', hq, .of_steps (.one (step_lone_go ?_)) harr⟩
  rw [hgo, ← fin_at (rest := rest) b a k ho v]; simp [stepG.apply, hr]
/-- A value is sent into a buffer with room. -/
theorem regN_send {c cap s r : Nat} {buf : Array Value} {v : Value} (ho : ops[i]? = some o) (hg : o.guard = none) (x y : Operand) (hop : o.op = .send x y) (hx : a.eval x = .chan (some c)) (hy : a.eval y = v)
    (hc : w.heap[c]? = some (.chan cap buf false s r false)) (hroom : buf.size < cap) (h : regN P ops rest Q (a.put o.dst undef) (w.setChan c cap (buf.push v) false (s + 1) r false)) : regN P ops (i :: rest) Q a w := by
  intro b k cs hb
  obtain ⟨e, a', w'', hq, harr⟩ := h b k cs hb
  have hw : Region.wanted o (yielded ops a.tmps) = true := by simp [Region.wanted, hg]
  have hr : (execOp a.eval o).run P w = .ok (.comm #[scase c v (.tuple #[])] true .send) w := by
    simp only [execOp, hop, hx, hy]; rfl
  refine ⟨e, a', w'', hq, .of_steps (.one ?_) harr⟩
  rw [lone_eq_solo, lone_eq_solo, ← fin_at (rest := rest) b a k ho undef]
  exact step_lone_send_room (stepG_comm ho hw (by rw [hb]; decide) hr) hc hroom
/-- A value is received from a buffer that holds one, or the zero value where it is empty and closed. -/
theorem regN_recv {c cap s r : Nat} {buf : Array Value} {closed : Bool} {z : Value} {t te : TypeId} {dir : ChanDir} (ho : ops[i]? = some o) (hg : o.guard = none) (x : Operand) (hop : o.op = .recv t x true) (hx : a.eval x = .chan (some c))
    (ht : P.underlying t = some (.chan dir te)) (hz : ∀ w, (zeroValue te).run P w = .ok z w)
    (hc : w.heap[c]? = some (.chan cap buf closed s r false)) (hsome : 0 < buf.size) (h : regN P ops rest Q (a.put o.dst (.tuple #[buf.getD 0 undef, .bool true])) (w.setChan c cap (buf.extract 1 buf.size) closed s (r + 1) false)) : regN P ops (i :: rest) Q a w := by
  intro b k cs hb
  obtain ⟨e, a', w'', hq, harr⟩ := h b k cs hb
  have hw : Region.wanted o (yielded ops a.tmps) = true := by simp [Region.wanted, hg]
  have hr : (execOp a.eval o).run P w = .ok (.comm #[rcase c z] true (.recv true)) w := by
    simp [execOp, hop, hx, run_underlying ht, hz, rcase]
  refine ⟨e, a', w'', hq, .of_steps (.one ?_) harr⟩
  rw [lone_eq_solo, lone_eq_solo, ← fin_at (rest := rest) b a k ho _]
  exact step_lone_recv_buf true (stepG_comm ho hw (by rw [hb]; decide) hr) hc hsome
theorem regN_shut {c cap s r : Nat} {z : Value} {t te : TypeId} {dir : ChanDir} (ho : ops[i]? = some o) (hg : o.guard = none) (x : Operand) (hop : o.op = .recv t x true) (hx : a.eval x = .chan (some c))
    (ht : P.underlying t = some (.chan dir te)) (hz : ∀ w, (zeroValue te).run P w = .ok z w)
    (hc : w.heap[c]? = some (.chan cap #[] true s r false)) (h : regN P ops rest Q (a.put o.dst (.tuple #[z, .bool false])) w) : regN P ops (i :: rest) Q a w := by
  intro b k cs hb
  obtain ⟨e, a', w'', hq, harr⟩ := h b k cs hb
  have hw : Region.wanted o (yielded ops a.tmps) = true := by simp [Region.wanted, hg]
  have hr : (execOp a.eval o).run P w = .ok (.comm #[rcase c z] true (.recv true)) w := by
    simp [execOp, hop, hx, run_underlying ht, hz, rcase]
  refine ⟨e, a', w'', hq, .of_steps (.one ?_) harr⟩
  rw [lone_eq_solo, lone_eq_solo, ← fin_at (rest := rest) b a k ho _]
  exact step_lone_recv_shut true (stepG_comm ho hw (by rw [hb]; decide) hr) hc
end
end Go
namespace Go.Proofs.YtmnpbpfeoackiaaDoor
open Go.RowKit
/-- A channel's block. -/
def Chn (w : World) (c cap : Nat) (buf : List Value) (cl : Bool) : Prop := ∃ s r, w.heap[c]? = some (.chan cap buf.toArray cl s r false)
theorem Chn.lt {w : World} {c cap : Nat} {buf : List Value} {cl : Bool} (h : Chn w c cap buf cl) : c < w.heap.size := by
  obtain ⟨s, r, h⟩ := h
  exact (Array.getElem?_eq_some_iff.1 h).1
theorem Chn.ext {w w' : World} {c cap : Nat} {buf : List Value} {cl : Bool} (h : Chn w c cap buf cl) (hE : Ext w w') : Chn w' c cap buf cl := by
  have hl := h.lt
  obtain ⟨s, r, h⟩ := h
  exact ⟨s, r, (hE.block c hl).trans h⟩
theorem Chn.push {w : World} {c cap : Nat} {buf : List Value} (h : Chn w c cap buf false) (hr : buf.length < cap) : ∃ s r, w.heap[c]? = some (.chan cap buf.toArray false s r false) ∧ buf.toArray.size < cap ∧ ∀ v, Chn (w.setChan c cap (buf.toArray.push v) false (s + 1) r false) c cap (buf ++ [v]) false := by
  have hl := h.lt
  obtain ⟨s, r, h⟩ := h
  refine ⟨s, r, h, by simpa using hr, fun v => ⟨s + 1, r, ?_⟩⟩
  rw [Go.Conc.heap_setChan _ _ _ _ _ _ _ _ hl]
  simp
theorem Chn.pop {w : World} {c cap : Nat} {v : Value} {buf : List Value} {cl : Bool} (h : Chn w c cap (v :: buf) cl) : ∃ s r, w.heap[c]? = some (.chan cap (v :: buf).toArray cl s r false) ∧ Chn (w.setChan c cap ((v :: buf).toArray.extract 1 (v :: buf).toArray.size) cl s (r + 1) false) c cap buf cl := by
  have hl := h.lt
  obtain ⟨s, r, h⟩ := h
  refine ⟨s, r, h, s, r + 1, ?_⟩
  rw [Go.Conc.heap_setChan _ _ _ _ _ _ _ _ hl]
  simp
theorem only_chan (w : World) (c cap : Nat) (buf : Array Value) (cl : Bool) (s r : Nat) : w.grownBy (w.setChan c cap buf cl s r false) (some c) :=
  ⟨rfl, rfl, rfl, by simp [World.setChan], fun k _ hn => by simp only [World.setChan]; rw [Array.getElem?_setIfInBounds_ne (fun e => hn (by rw [e]))]⟩
end Go.Proofs.YtmnpbpfeoackiaaDoor
