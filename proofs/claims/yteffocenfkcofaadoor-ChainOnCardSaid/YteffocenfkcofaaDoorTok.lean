/-
  Links and tokens that come in as arguments. No condition.
-/
import Derived.Test.YteffocenfkcofaaDoorRow
import Derived.Test.YteffocenfkcofaaDoorMgF
import Derived.OpenShut
import Derived.ChangeArms
import Derived.Lib.SmallJoins
namespace Go.Proofs.YteffocenfkcofaaDoor
open Go.RowKit Go.ChangeShapes Go.WideShapes Go.Deep

section
variable {H : Type} {enc : TypeId × Value → H} {P : Program} {W : World}

theorem open_rdT {t e : TypeId} {v : Value} {fuel : Nat} {x : DataW H × List MemPlace} (ht : P.underlying t = some (.slice e)) (size : Nat) (hc : P.cellsOf e = size) (h0 : 0 < size)
    (E : List Value → Prop) (hE : ∀ n cs x, DataW.trod enc P W 0 (fun _ => true) true n e cs = some x → E cs)
    (hf : DataW.trod enc P W 0 (fun _ => true) true fuel t [v] = some x) :
    ∃ (n : Nat) (css : List (List Value)), Rd W W.heap.size size v n css.flatten ∧ (∃ A c, v = .slice A n c ∧ n ≤ c) ∧ css.length = n ∧ n ≤ maxLen ∧ ∀ cs ∈ css, cs.length = size ∧ E cs := by
  rcases open_slice ht hf with ⟨hcs, hx⟩ | ⟨a', len', cap', m, n, D, Pl, hcs, _, hl, hm, hmm, hx, hcell⟩
  · simp at hcs
    subst hcs
    exact ⟨0, [], ⟨_, _, rfl, by omega, by simp, fun h => absurd h (by omega)⟩, ⟨_, _, rfl, by omega⟩, rfl, by omega, by simp⟩
  · simp at hcs
    subst hcs
    have hlm : len' ≤ m := by rw [hmm]; split <;> omega
    have each : ∀ i, i < m → ∃ cs' : List Value, cs'.length = size ∧ E cs' ∧ ∀ k, k < size → W.cell? ((a'.add (i * size)).add k) = cs'[k]? := fun i hi => by
      obtain ⟨cs', h1, h2⟩ := hcell i hi
      rw [hc] at h1
      obtain ⟨_, h3, h4⟩ := World.cells?_some h1
      exact ⟨cs', h3, hE _ _ _ h2, h4⟩
    obtain ⟨C, hC⟩ := choose_lt each
    have hlen : ∀ cs ∈ (List.range len').map C, cs.length = size ∧ E cs := fun cs hcs => by
      obtain ⟨i, hi, rfl⟩ := List.mem_map.1 hcs
      have := hC i (by have := List.mem_range.1 hi; omega)
      exact ⟨this.1, this.2.1⟩
    refine ⟨len', (List.range len').map C, ⟨_, _, rfl, by unfold maxLen at hm; omega, ?_, fun hpos => ?_⟩, ⟨_, _, rfl, by omega⟩, by simp, by omega, hlen⟩
    · have hflat : ∀ l : List (List Value), (∀ c ∈ l, c.length = size) → l.flatten.length = l.length * size := by
        intro l
        induction l with
        | nil => intro _; simp
        | cons c r ih => intro h; rw [List.flatten_cons, List.length_append, h c (by simp), ih (fun x hx => h x (by simp [hx])), List.length_cons, Nat.add_mul]; omega
      have := hflat ((List.range len').map C) (fun c hc => (hlen c hc).1)
      simpa using this
    · obtain ⟨b, off, spot⟩ := a'
      have hc0 := (hC 0 (by omega)).2.2 0 h0
      obtain ⟨u0, hu0⟩ : ∃ u, (C 0)[0]? = some u := by
        have := (hC 0 (by omega)).1
        exact ⟨(C 0)[0]'(by omega), List.getElem?_eq_getElem _⟩
      rw [hu0] at hc0
      have hspot : spot = none := by simpa [Addr.add] using World.cell?_spot hc0
      subst hspot
      have hb : b < W.heap.size := by
        have := World.block_lt_of_cell? _ _ hc0
        simpa [Addr.add] using this
      refine ⟨b, off, rfl, hb, ?_⟩
      refine flat_cells (f := fun i => W.cell? ⟨b, i, none⟩) ((List.range len').map C) off (fun c hc => (hlen c hc).1) (fun i c hi k hk => ?_)
      have hi' : i < len' ∧ C i = c := by
        have := List.getElem?_eq_some_iff.1 hi
        obtain ⟨h1, h2⟩ := this
        simp at h1 h2
        exact ⟨h1, h2⟩
      have h4 := (hC i (by omega)).2.2 k hk
      rw [hi'.2] at h4
      rw [← h4]
      rw [add_plain, add_plain]

end

section
variable {H : Type} {enc : TypeId × Value → H} {W : World}
set_option maxRecDepth 100000 in
theorem link_open {r : Reach} {b0 : Nat} {v : Value} {d : DataW H} {ps : List MemPlace} (hv : Value.okWide Tryd.prog W r b0 41 v) (h : DataW.Trod enc Tryd.prog W 0 (fun _ => true) true 41 v d ps) : ∃ x : LinkL, v = linkV x ∧ True := by
  obtain ⟨v0, v1, y0, y1, n, rfl, _, _, h0, h1⟩ := Joins.open_agg2 Tryd.underlying41 (by kernel_rfl) (by kernel_rfl) hv h
  obtain ⟨s, e0, _, _⟩ := DataW.trod_string Tryd.underlying9 h0
  obtain ⟨t, e1, _, _⟩ := DataW.trod_string Tryd.underlying9 h1
  obtain rfl : v0 = .string s := by simpa using e0
  obtain rfl : v1 = .string t := by simpa using e1
  exact ⟨(toL s, toL t), by simp [linkV, ofL_toL], trivial⟩
set_option maxRecDepth 100000 in
theorem linkCells_open {n : Nat} {cs : List Value} {x : DataW H × List MemPlace} (hx : DataW.trod enc Tryd.prog W 0 (fun _ => true) true n 41 cs = some x) : ∃ x : LinkL, cs = [.string (ofL x.1), .string (ofL x.2)] ∧ True := by
  obtain ⟨hl, hf⟩ := trod_cells Tryd.underlying41 (by kernel_rfl) (by kernel_rfl) hx
  obtain ⟨_, v0, _, k0, h0⟩ := hf 0 _ rfl
  obtain ⟨_, v1, _, k1, h1⟩ := hf 1 _ rfl
  obtain ⟨s, e0, _, _⟩ := DataW.trod_string Tryd.underlying9 h0
  obtain ⟨t, e1, _, _⟩ := DataW.trod_string Tryd.underlying9 h1
  obtain rfl : v0 = .string s := by simpa using e0
  obtain rfl : v1 = .string t := by simpa using e1
  refine ⟨(toL s, toL t), ?_, trivial⟩
  rw [ofL_toL, ofL_toL]
  match cs, hl, k0, k1 with
  | [a, b], _, k0, k1 => simp at k0 k1; rw [k0, k1]

/-- A token as an argument. -/
structure TokA where
  id : List UInt8
  tag : List UInt8
  A : Option Addr
  c : Nat
  l : List LinkL
def tokAV (t : TokA) : Value := tokV t.id (.slice t.A t.l.length t.c) t.tag
def TokOk (W : World) (t : TokA) : Prop := RdLinks W W.heap.size (.slice t.A t.l.length t.c) t.l ∧ t.l.length ≤ t.c
theorem flat_links : ∀ l : List LinkL, (l.map fun x => [Value.string (ofL x.1), Value.string (ofL x.2)]).flatten = linkCells l
  | [] => rfl
  | x :: l => by rw [List.map_cons, List.flatten_cons, flat_links l]; rfl
set_option maxRecDepth 100000 in
theorem tok_open {r : Reach} {b0 : Nat} {v : Value} {d : DataW H} {ps : List MemPlace} (hv : Value.okWide Tryd.prog W r b0 31 v) (h : DataW.Trod enc Tryd.prog W 0 (fun _ => true) true 31 v d ps) : ∃ t : TokA, v = tokAV t ∧ TokOk W t := by
  obtain ⟨v0, v1, v2, y0, y1, y2, n, rfl, _, _, h0, h1, h2⟩ := Joins.open_agg3 Tryd.underlying31 (by kernel_rfl) (by kernel_rfl) hv h
  obtain ⟨s, e0, _, _⟩ := DataW.trod_string Tryd.underlying9 h0
  obtain ⟨t, e2, _, _⟩ := DataW.trod_string Tryd.underlying9 h2
  obtain rfl : v0 = .string s := by simpa using e0
  obtain rfl : v2 = .string t := by simpa using e2
  obtain ⟨k, css, hrd, ⟨A, c, rfl, hcap⟩, hlen, _, hall⟩ := open_rdT Tryd.underlying29 2 (by kernel_rfl) (by omega) (fun cs => ∃ x : LinkL, cs = [.string (ofL x.1), .string (ofL x.2)] ∧ True) (fun n cs x hx => linkCells_open hx) h1
  obtain ⟨l, rfl, _⟩ := list_choose (g := fun x : LinkL => [Value.string (ofL x.1), Value.string (ofL x.2)]) css (fun cs hcs => (hall cs hcs).2)
  rw [List.length_map] at hlen
  subst hlen
  rw [flat_links] at hrd
  exact ⟨⟨toL s, toL t, A, c, l⟩, by simp [tokAV, tokV, ofL_toL], hrd, hcap⟩
end
end Go.Proofs.YteffocenfkcofaaDoor
