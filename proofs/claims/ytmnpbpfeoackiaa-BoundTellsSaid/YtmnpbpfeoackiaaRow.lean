/-
  A row's slice arguments as lists: what is read of them, by element. No program in sight. No condition.
-/
import Derived.Test.YtmnpbpfeoackiaaBase
import Derived.Deep.Strs
import Derived.ProofKit
import Derived.WideKeyArgs
namespace Go.Proofs.Ytmnpbpfeoackiaa
open Go.RowKit Go.ChangeShapes Go.WideShapes Go.Deep

theorem flat_cells {f : Nat → Option Value} {size : Nat} : ∀ (css : List (List Value)) (off : Nat), (∀ cs ∈ css, cs.length = size) →
    (∀ i (c : List Value), css[i]? = some c → ∀ k, k < size → f (off + i * size + k) = c[k]?) → ∀ j u, css.flatten[j]? = some u → f (off + j) = some u := by
  intro css
  induction css with
  | nil => intro off _ _ j u h; simp at h
  | cons c r ih =>
    intro off hl hc j u h
    have hcl : c.length = size := hl c (by simp)
    rw [List.flatten_cons] at h
    by_cases hj : j < size
    · rw [List.getElem?_append_left (by omega)] at h
      have := hc 0 c rfl j hj
      rw [Nat.zero_mul, Nat.add_zero] at this
      rw [this, h]
    · rw [List.getElem?_append_right (by omega), hcl] at h
      have := ih (off + size) (fun cs h => hl cs (by simp [h])) (fun i c' hi k hk => by
        have := hc (i + 1) c' (by simpa using hi) k hk
        rw [← this, Nat.add_mul, Nat.one_mul]
        congr 1
        omega) (j - size) u h
      rw [← this]
      congr 1
      omega

theorem list_choose {α β : Type} {g : α → β} {Q : α → Prop} : ∀ (cs : List β), (∀ c ∈ cs, ∃ s, c = g s ∧ Q s) → ∃ ss : List α, cs = ss.map g ∧ ∀ s ∈ ss, Q s
  | [], _ => ⟨[], rfl, by simp⟩
  | c :: r, h => by
    obtain ⟨s, h1, h2⟩ := h c (by simp)
    obtain ⟨ss, h3, h4⟩ := list_choose r (fun x hx => h x (by simp [hx]))
    exact ⟨s :: ss, by simp [h1, h3], by intro x hx; rcases List.mem_cons.1 hx with rfl | hx; exact h2; exact h4 x hx⟩

section
variable {H : Type} {enc : TypeId × Value → H} {P : Program} {W : World}

theorem open_rd {t e : TypeId} {r : Reach} {b0 : Nat} {v : Value} {d : DataW H} {ps : List MemPlace} (ht : P.underlying t = some (.slice e)) (size : Nat) (hc : P.cellsOf e = size) (h0 : 0 < size)
    (E : List Value → Prop) (hE : ∀ n cs x, DataW.trod enc P W 0 (fun _ => true) true n e cs = some x → E cs)
    (hv : Value.okWide P W r b0 t v) (h : DataW.Trod enc P W 0 (fun _ => true) true t v d ps) :
    ∃ (n : Nat) (css : List (List Value)), Rd W W.heap.size size v n css.flatten ∧ css.length = n ∧ n ≤ maxLen ∧ ∀ cs ∈ css, cs.length = size ∧ E cs := by
  obtain ⟨a, len, cap, rfl⟩ := okWide_slice ht hv
  obtain ⟨fuel, hf⟩ := h
  rcases open_slice ht hf with ⟨hcs, hx⟩ | ⟨a', len', cap', m, n, D, Pl, hcs, _, hl, hm, hmm, hx, hcell⟩
  · simp [Value.cells] at hcs
    obtain ⟨rfl, rfl, rfl⟩ := hcs
    exact ⟨0, [], ⟨_, _, rfl, by omega, by simp, fun h => absurd h (by omega)⟩, rfl, by omega, by simp⟩
  · simp [Value.cells] at hcs
    obtain ⟨rfl, rfl, rfl⟩ := hcs
    have hlm : len ≤ m := by rw [hmm]; split <;> omega
    have each : ∀ i, i < m → ∃ cs' : List Value, cs'.length = size ∧ E cs' ∧ ∀ k, k < size → W.cell? ((a'.add (i * size)).add k) = cs'[k]? := fun i hi => by
      obtain ⟨cs', h1, h2⟩ := hcell i hi
      rw [hc] at h1
      obtain ⟨_, h3, h4⟩ := World.cells?_some h1
      exact ⟨cs', h3, hE _ _ _ h2, h4⟩
    obtain ⟨C, hC⟩ := choose_lt each
    have hlen : ∀ cs ∈ (List.range len).map C, cs.length = size ∧ E cs := fun cs hcs => by
      obtain ⟨i, hi, rfl⟩ := List.mem_map.1 hcs
      have := hC i (by have := List.mem_range.1 hi; omega)
      exact ⟨this.1, this.2.1⟩
    refine ⟨len, (List.range len).map C, ⟨_, _, rfl, by unfold maxLen at hm; omega, ?_, fun hpos => ?_⟩, by simp, by omega, hlen⟩
    · have hflat : ∀ l : List (List Value), (∀ c ∈ l, c.length = size) → l.flatten.length = l.length * size := by
        intro l
        induction l with
        | nil => intro _; simp
        | cons c r ih => intro h; rw [List.flatten_cons, List.length_append, h c (by simp), ih (fun x hx => h x (by simp [hx])), List.length_cons, Nat.add_mul]; omega
      have := hflat ((List.range len).map C) (fun c hc => (hlen c hc).1)
      simpa using this
    · obtain ⟨b, off, spot⟩ := a'
      have hc0 := (hC 0 (by omega)).2.2 0 h0
      obtain ⟨u0, hu0⟩ : ∃ u, (C 0)[0]? = some u := by
        have := (hC 0 (by omega)).1
        exact ⟨(C 0)[0]'(by omega), List.getElem?_eq_getElem _⟩
      rw [hu0] at hc0
      have hspot : spot = none := by simpa [Addr.add] using World.cell?_spot hc0
      subst hspot
      have hb : b < W.heap.size := by
        have := World.block_lt_of_cell? _ _ hc0
        simpa [Addr.add] using this
      refine ⟨b, off, rfl, hb, ?_⟩
      refine flat_cells (f := fun i => W.cell? ⟨b, i, none⟩) ((List.range len).map C) off (fun c hc => (hlen c hc).1) (fun i c hi k hk => ?_)
      have hi' : i < len ∧ C i = c := by
        have := List.getElem?_eq_some_iff.1 hi
        obtain ⟨h1, h2⟩ := this
        simp at h1 h2
        exact ⟨h1, h2⟩
      have h4 := (hC i (by omega)).2.2 k hk
      rw [hi'.2] at h4
      rw [← h4]
      rw [add_plain, add_plain]

theorem open_rd1 {t e : TypeId} {r : Reach} {b0 : Nat} {v : Value} {d : DataW H} {ps : List MemPlace} (ht : P.underlying t = some (.slice e)) (hc : P.cellsOf e = 1) {α : Type} (g : α → Value) (Q : α → Prop)
    (hE : ∀ n cs x, DataW.trod enc P W 0 (fun _ => true) true n e cs = some x → ∃ s, cs = [g s] ∧ Q s)
    (hv : Value.okWide P W r b0 t v) (h : DataW.Trod enc P W 0 (fun _ => true) true t v d ps) :
    ∃ ss : List α, Rd W W.heap.size 1 v ss.length (ss.map g) ∧ ss.length ≤ maxLen ∧ ∀ s ∈ ss, Q s := by
  obtain ⟨n, css, h1, h2, h3, h4⟩ := open_rd ht 1 hc (by omega) (fun cs => ∃ s, cs = [g s] ∧ Q s) hE hv h
  obtain ⟨ss, rfl, h5⟩ := list_choose css (fun c hc => (h4 c hc).2)
  have : ∀ l : List α, (l.map fun s => [g s]).flatten = l.map g := fun l => by induction l with
    | nil => rfl
    | cons a r ih => rw [List.map_cons, List.flatten_cons, ih]; rfl
  rw [this] at h1
  simp at h2
  subst h2
  exact ⟨ss, h1, h3, h5⟩
theorem open_rd_strs {t e : TypeId} {r : Reach} {b0 : Nat} {v : Value} {d : DataW H} {ps : List MemPlace} (ht : P.underlying t = some (.slice e)) (he : P.underlying e = some .string) (hc : P.cellsOf e = 1)
    (hv : Value.okWide P W r b0 t v) (h : DataW.Trod enc P W 0 (fun _ => true) true t v d ps) :
    ∃ ss : List (List UInt8), Rd W W.heap.size 1 v ss.length (ss.map Str) ∧ ss.length ≤ maxLen ∧ ∀ s ∈ ss, s.length ≤ maxLen :=
  open_rd1 ht hc Str (fun s => s.length ≤ maxLen) (fun n cs x hx => by
    obtain ⟨s, h1, _, h3⟩ := DataW.trod_string he hx
    exact ⟨toL s, by rw [h1]; unfold Str; rw [ofL_toL], by rw [length_toL]; exact h3⟩) hv h
theorem open_rd_ints {t e : TypeId} {k : IntKind} {r : Reach} {b0 : Nat} {v : Value} {d : DataW H} {ps : List MemPlace} (ht : P.underlying t = some (.slice e)) (he : P.underlying e = some (.int k)) (hc : P.cellsOf e = 1)
    (hv : Value.okWide P W r b0 t v) (h : DataW.Trod enc P W 0 (fun _ => true) true t v d ps) :
    ∃ ss : List Int, Rd W W.heap.size 1 v ss.length (ss.map (Value.int k)) ∧ ss.length ≤ maxLen ∧ ∀ s ∈ ss, (Lit.int k s).wf = true :=
  open_rd1 ht hc (Value.int k) (fun s => (Lit.int k s).wf = true) (fun n cs x hx => by
    obtain ⟨s, h1, _, h3⟩ := DataW.trod_int he hx
    exact ⟨s, h1, h3⟩) hv h

/-- A struct whose fields have a cell each. -/
theorem trod_cells {t : TypeId} {fs : Array Field} {n : Nat} {cs : List Value} {x : DataW H × List MemPlace} (ht : P.underlying t = some (.struct fs)) (hc : P.cellsOf t = fs.size)
    (hf : (fs.toList.zipIdx.all fun q => q.1.offset == q.2 && P.cellsOf q.1.type == 1) = true) (h : DataW.trod enc P W 0 (fun _ => true) true n t cs = some x) :
    cs.length = fs.size ∧ ∀ (i : Nat) (f : Field), fs[i]? = some f → ∃ n' u y, cs[i]? = some u ∧ DataW.trod enc P W 0 (fun _ => true) true n' f.type [u] = some y := by
  obtain ⟨xs, m, _, _, hl, hxl, hx⟩ := DataW.trod_struct ht h
  rw [hc] at hl
  refine ⟨hl, fun i f hi => ?_⟩
  have hlt := (Array.getElem?_eq_some_iff.1 hi).1
  have hq := (List.all_eq_true.1 hf) (f, i) (by
    rw [List.mem_zipIdx_iff_getElem?]
    simpa using hi)
  simp only [Bool.and_eq_true, beq_iff_eq] at hq
  have h1 := hx i f hi
  rw [hq.1, hq.2] at h1
  obtain ⟨u, hu⟩ : ∃ u, cs[i]? = some u := ⟨cs[i]'(by omega), List.getElem?_eq_getElem _⟩
  have h2 : (cs.drop i).take 1 = [u] := by
    rw [List.drop_eq_getElem_cons (by omega), List.take_succ_cons, List.take_zero]
    have := List.getElem?_eq_getElem (show i < cs.length by omega)
    rw [this] at hu
    simpa using hu
  rw [h2] at h1
  exact ⟨m, u, xs[i]'(by omega), hu, by rw [h1]; exact List.getElem?_eq_getElem _⟩

/-- What came in reads as before where nothing that was there has turned. -/
theorem trodAll_stays (hl : laidOutB P = true) {W' : World} {sp : Nat → Bool} : ∀ {ts : List TypeId} {vs : List Value} {ds : List (DataW H)} {ps : List MemPlace}, (ts.all fun t => P.readableRec t && decide (t < P.types.size)) = true →
    DataW.TrodAll enc P W 0 (fun _ => true) true ts vs ds ps → (∀ p ∈ ps, W.sameAt W' p) → (∀ p ∈ ps, sp p.block = true) → DataW.TrodAll enc P W' 0 sp true ts vs ds ps
  | [], vs, ds, ps, _, h, _, _ => by
    cases vs <;> cases ds <;> first | exact h | exact h.elim
  | t :: ts, [], ds, ps, _, h, _, _ => by cases ds <;> exact h.elim
  | t :: ts, _ :: _, [], ps, _, h, _, _ => h.elim
  | t :: ts, v :: vs, d :: ds, ps, ht, h, h1, h2 => by
    obtain ⟨p, q, ha, hb, rfl⟩ := h
    simp only [List.all_cons, Bool.and_eq_true, decide_eq_true_eq] at ht
    exact ⟨p, q, WideElems.Trod_stays hl ht.1.1 ht.1.2 ha (fun x hx => h1 x (by simp [hx])) (fun x hx => h2 x (by simp [hx])),
      trodAll_stays hl (by simpa using ht.2) hb (fun x hx => h1 x (by simp [hx])) (fun x hx => h2 x (by simp [hx])), rfl⟩

theorem wf_i64 {n : Int} (h : (Lit.int .i64 n).wf = true) : -9223372036854775808 ≤ n ∧ n ≤ 9223372036854775807 := by
  have h1 : IntKind.i64.min = -9223372036854775808 := rfl
  have h2 : IntKind.i64.max = 9223372036854775807 := rfl
  simp only [Lit.wf, Bool.and_eq_true, decide_eq_true_eq] at h
  omega
theorem wf_u64 {n : Int} (h : (Lit.int .u64 n).wf = true) : ∃ m : Nat, n = m ∧ m < 18446744073709551616 := by
  have h1 : IntKind.u64.min = 0 := rfl
  have h2 : IntKind.u64.max = 18446744073709551615 := rfl
  simp only [Lit.wf, Bool.and_eq_true, decide_eq_true_eq] at h
  exact ⟨n.toNat, by omega, by omega⟩
end
end Go.Proofs.Ytmnpbpfeoackiaa
