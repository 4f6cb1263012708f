/-
  Tokens and their links in memory and as arguments, small facts on rows. No condition.
-/
import Derived.Test.YtmnpbpfeoackiaaBld
import Derived.Test.YtmnpbpfeoackiaaArr
import Derived.Test.YtmnpbpfeoackiaaRow
import Derived.Test.YtmnpbpfeoackiaaIter
import Derived.Test.YtmnpbpfeoackiaaInvS
import Derived.Test.YtmnpbpfeoackiaaOct3
import Derived.OpenShut
import Derived.ChangeArms
import Derived.Lib.SmallJoins
import Derived.Lib.Hide
namespace Go.Proofs.Ytmnpbpfeoackiaa
open Go.RowKit Go.ChangeShapes Go.WideShapes Go.Deep
/-- A fact kept out of every tactic's sight: no unfolding shows it. -/
structure Kp (p : Prop) : Prop where
  out : p
theorem own_eq {w : World} {base : Nat} {e : TypeId} {size n m : Nat} {v : Value} {xs ys : List Value} (h : w.ownsRow base e size v n xs) (hx : xs = ys) (hn : n = m) : w.ownsRow base e size v m ys := by
  rw [← hx, ← hn]; exact h
theorem own_ext {w w' : World} {base : Nat} {e : TypeId} {size n : Nat} {v : Value} {xs : List Value} (h : w.ownsRow base e size v n xs) (hE : ∀ k, base ≤ k → k < w.heap.size → w'.heap[k]? = w.heap[k]?) : w'.ownsRow base e size v n xs := by
  refine ⟨h.1, ?_⟩
  rcases h.2 with hn | ⟨g, cap, cur, rfl, hb, hg, rest⟩
  · exact .inl hn
  · refine .inr ⟨g, cap, cur, rfl, hb, ?_, rest⟩
    rw [hE g hb (Array.getElem?_eq_some_iff.1 hg).1]
    exact hg
theorem own_slice {w : World} {base : Nat} {e : TypeId} {size n : Nat} {v : Value} {xs : List Value} (h : w.ownsRow base e size v n xs) : ∃ A c, v = .slice A n c := by
  rcases h.2 with ⟨rfl, rfl⟩ | ⟨g, cap, cur, rfl, _⟩
  · exact ⟨_, _, rfl⟩
  · exact ⟨_, _, rfl⟩
theorem own_at {w : World} {base : Nat} {e : TypeId} {size n c : Nat} {A : Option Addr} {xs : List Value} (h : w.ownsRow base e size (.slice A n c) n xs) (hn : 0 < n) :
    ∃ g, A = some ⟨g, 0, none⟩ ∧ base ≤ g ∧ g < w.heap.size ∧ ∀ j u, xs[j]? = some u → w.cell? ⟨g, j, none⟩ = some u := by
  rcases h.2 with ⟨_, rfl⟩ | ⟨g, cap, cur, he, hb, hg, _⟩
  · omega
  · cases he
    refine ⟨g, rfl, hb, (h.lt g rfl).2, fun j u hu => ?_⟩
    have hj : j < xs.length := (List.getElem?_eq_some_iff.1 hu).1
    rw [h.cellAt j (by have := h.1; omega)]
    exact hu
theorem rd_at {w W : World} {size n : Nat} {v : Value} {xs : List Value} (h : Rd w w.heap.size size v n xs) (hE : Ext w W) : Rd W W.heap.size size v n xs := (h.ext hE (Nat.le_refl _)).more hE.size
theorem isEmpty_ne {b : List UInt8} (h : ¬ b = []) : b.isEmpty = false := by cases b with
  | nil => exact absurd rfl h
  | cons x l => rfl
/-- A link: its text, its seal. -/
abbrev LinkL := List UInt8 × List UInt8
/-- A token: its ID, its links, its tag. -/
structure TokL where
  id : List UInt8
  links : List LinkL
  tag : List UInt8
def tok0 : TokL := ⟨[], [], []⟩
/-- A link as a value. -/
def linkV (x : LinkL) : Value := .agg #[.string (ofL x.1), .string (ofL x.2)]
/-- A token as a value. -/
def tokV (id : List UInt8) (vl : Value) (tag : List UInt8) : Value := .agg #[.string (ofL id), vl, .string (ofL tag)]
/-- Links that are short. -/
def Short1 (l : List LinkL) : Prop := ∀ x ∈ l, x.1.length + x.2.length ≤ 200000
/-- The cells of links, two each. -/
def linkCells (l : List LinkL) : List Value := l.flatMap fun x => [.string (ofL x.1), .string (ofL x.2)]
theorem linkCells_cons (x : LinkL) (l : List LinkL) : linkCells (x :: l) = .string (ofL x.1) :: .string (ofL x.2) :: linkCells l := rfl
theorem length_linkCells : ∀ l : List LinkL, (linkCells l).length = l.length * 2
  | [] => rfl
  | x :: l => by rw [linkCells_cons, List.length_cons, List.length_cons, length_linkCells l, List.length_cons]; omega
theorem linkCells_get : ∀ (l : List LinkL) (k : Nat) (h : k < l.length), (linkCells l)[k * 2]? = some (.string (ofL l[k].1)) ∧ (linkCells l)[k * 2 + 1]? = some (.string (ofL l[k].2))
  | [], k, h => by simp at h
  | x :: l, 0, _ => ⟨rfl, rfl⟩
  | x :: l, k + 1, h => by
    have ih := linkCells_get l k (by simpa using h)
    rw [show (k + 1) * 2 = k * 2 + 1 + 1 by omega, linkCells_cons]
    simp only [List.getElem?_cons_succ, List.getElem_cons_succ]
    exact ih
/-- A slice of links that is only read. -/
def RdLinks (w : World) (B : Nat) (v : Value) (l : List LinkL) : Prop := Rd w B 2 v l.length (linkCells l)
theorem RdLinks.cells {w : World} {B : Nat} {v : Value} {l : List LinkL} (h : RdLinks w B v l) : ∃ A c, v = .slice A l.length c ∧ l.length ≤ 9223372036854775807 ∧ (0 < l.length → ∃ b off, A = some ⟨b, off, none⟩ ∧ b < B ∧ ∀ k (hk : k < l.length), w.cell? ⟨b, off + k * 2, none⟩ = some (.string (ofL l[k].1)) ∧ w.cell? ⟨b, off + k * 2 + 1, none⟩ = some (.string (ofL l[k].2))) := by
  obtain ⟨A, c, rfl, hn, hl, hc⟩ := h
  refine ⟨A, c, rfl, hn, fun h0 => ?_⟩
  obtain ⟨b, off, rfl, hb, hcell⟩ := hc h0
  exact ⟨b, off, rfl, hb, fun k hk => ⟨hcell _ _ (linkCells_get l k hk).1, hcell (k * 2 + 1) _ (linkCells_get l k hk).2⟩⟩
theorem ext_grown {W W' : World} (h : Ext W W') : W.grownBy W' none := ⟨h.os, h.tape, h.output, h.size, fun k hk _ => h.block k hk⟩
theorem isBuilder_ext {T e : TypeId} {B b : Nat} {bs : List Value} {w w' : World} (h : Lib.IsBuilder T e B b bs w) (hE : Ext w w') : Lib.IsBuilder T e B b bs w' := by
  have key : ∀ p, Lib.BuilderAt T e B b p bs w → Lib.BuilderAt T e B b p bs w' := by
    rintro p ⟨hB, v, hb, hown, hne⟩
    exact ⟨hB, v, (hE.block b (Array.getElem?_eq_some_iff.1 hb).1).trans hb, own_ext hown (fun j _ hj => hE.block j hj), hne⟩
  exact h.elim (fun h => .inl (key _ h)) (fun h => .inr (key _ h))
theorem strCells_ofL (l : List UInt8) : Lib.strCells (ofL l) = Lib.byteCells l := rfl
theorem byteCells_append (a b : List UInt8) : Lib.byteCells a ++ Lib.byteCells b = Lib.byteCells (a ++ b) := by simp [Lib.byteCells]
theorem below_ext {w wr w' : World} (h : Ext w wr) (hB : Below w.heap.size wr w') : Ext w w' := Below.trans h hB
/-- A part written behind. -/
theorem bld_writeL (B b : Nat) (l p : List UInt8) (w : World) (h : Lib.IsBuilder 101 5 B b (Lib.byteCells l) w) (hlen : l.length + p.length ≤ 1000000) (hBw : B ≤ w.heap.size) :
    Calls Try.prog 66 #[.pointer (some ⟨b, 0, none⟩), .string (ofL p)] w fun e w' => e = .returned (.tuple #[.int .i64 p.length, .nilIface]) ∧ Lib.IsBuilder 101 5 B b (Lib.byteCells (l ++ p)) w' ∧ Below B w w' := by
  refine (bld_write B b _ (ofL p) w h (by rw [Lib.byteCells_length, size_ofL]; omega) hBw).mono ?_
  rintro e w' ⟨rfl, hb, hB⟩
  rw [strCells_ofL, byteCells_append] at hb
  exact ⟨by rw [size_ofL], .inr hb, hB⟩
/-- A cell block kept. -/
theorem arr_kept {W W' : World} {row : Option Nat} {k : Nat} {t : TypeId} {xs : List Value} (h : Arr W k t xs) (hg : W.grownBy W' row) (hne : ∀ r, row = some r → r ≠ k) : Arr W' k t xs := grownBy_at hg h hne
theorem own_more {w : World} {base base' : Nat} {e : TypeId} {size n : Nat} {v : Value} {xs : List Value} (h : w.ownsRow base e size v n xs) (hb : base' ≤ base) : w.ownsRow base' e size v n xs := by
  refine ⟨h.1, ?_⟩
  rcases h.2 with hn | ⟨g, cap, cur, rfl, hb', rest⟩
  · exact .inl hn
  · exact .inr ⟨g, cap, cur, rfl, Nat.le_trans hb hb', rest⟩
theorem own_kept {W W' : World} {row : Option Nat} {base : Nat} {e : TypeId} {size n : Nat} {v : Value} {xs : List Value} (h : W.ownsRow base e size v n xs) (hg : W.grownBy W' row) (hr : ∀ r, row = some r → r < base ∨ ∃ o : Obj, W.heap[r]? = some o ∧ o.isCells = false) : W'.ownsRow base e size v n xs := by
  refine h.kept hg ?_
  rcases h.2 with ⟨rfl, _⟩ | ⟨g, cap, cur, rfl, hb, hgb, _⟩
  · exact .inl rfl
  · refine .inr fun e' => ?_
    have e2 : row = some g := by rw [← e']; rfl
    rcases hr g e2 with h1 | ⟨o, ho, hc⟩
    · omega
    · rw [hgb] at ho; cases ho; cases hc
theorem arr_cell0 {W : World} {k : Nat} {t : TypeId} {v : Value} (h : Arr W k t [v]) : W.cell? ⟨k, 0, none⟩ = some v ∧ W.frozen? ⟨k, 0, none⟩ = false := ⟨h.cell 0, h.frozen 0⟩
theorem arr_set0 {W : World} {k : Nat} {t : TypeId} {v : Value} (h : Arr W k t [v]) (u : Value) : Arr (W.setCell ⟨k, 0, none⟩ u) k t [u] := h.set 0 u
theorem own_ne {w : World} {base : Nat} {e : TypeId} {size n : Nat} {v : Value} {xs : List Value} (h : w.ownsRow base e size v n xs) {k : Nat} (hk : k < base) : v.ownBlock = none ∨ v.ownBlock ≠ some k :=
  .inr fun e => by have := (h.lt k e).1; omega
/-- A row stays where a row of another element type is turned. -/
theorem own_kept_type {W W' : World} {base base' : Nat} {e e' : TypeId} {size size' n n' : Nat} {v v' : Value} {xs xs' : List Value} (h : W.ownsRow base e size v n xs) (h' : W.ownsRow base' e' size' v' n' xs') (hne : e ≠ e') (hg : W.grownBy W' v'.ownBlock) : W'.ownsRow base e size v n xs := by
  refine h.kept hg ?_
  rcases h.2 with ⟨rfl, _⟩ | ⟨g, cap, cur, rfl, hb, hgb, _⟩
  · exact .inl rfl
  · refine .inr fun e9 => ?_
    rcases h'.2 with ⟨rfl, _⟩ | ⟨g', cap', cur', rfl, hb', hgb', _⟩
    · cases e9
    · have : some g = some g' := e9
      cases this
      rw [hgb] at hgb'
      cases hgb'
      exact hne rfl
/-- A block of one type stays where a row of another element type is turned. -/
theorem arr_kept_type {W W' : World} {base' g : Nat} {t e' : TypeId} {size' n' : Nat} {v' : Value} {ys xs' : List Value} (h : Arr W g t ys) (h' : W.ownsRow base' e' size' v' n' xs') (hne : t ≠ e') (hg : W.grownBy W' v'.ownBlock) : Arr W' g t ys := by
  refine arr_kept h hg fun r e9 => ?_
  rcases h'.2 with ⟨rfl, _⟩ | ⟨g', cap', cur', rfl, hb', hgb', _⟩
  · cases e9
  · have : some g' = some r := e9
    cases this
    rintro rfl
    unfold Arr at h
    rw [h] at hgb'
    cases hgb'
    exact hne rfl
section
variable {H : Type} {enc : TypeId × Value → H} {P : Program} {W : World}

theorem open_rdT {t e : TypeId} {v : Value} {fuel : Nat} {x : DataW H × List MemPlace} (ht : P.underlying t = some (.slice e)) (size : Nat) (hc : P.cellsOf e = size) (h0 : 0 < size)
    (E : List Value → Prop) (hE : ∀ n cs x, DataW.trod enc P W 0 (fun _ => true) true n e cs = some x → E cs)
    (hf : DataW.trod enc P W 0 (fun _ => true) true fuel t [v] = some x) :
    ∃ (n : Nat) (css : List (List Value)), Rd W W.heap.size size v n css.flatten ∧ (∃ A c, v = .slice A n c ∧ n ≤ c) ∧ css.length = n ∧ n ≤ maxLen ∧ ∀ cs ∈ css, cs.length = size ∧ E cs := by
  rcases open_slice ht hf with ⟨hcs, hx⟩ | ⟨a', len', cap', m, n, D, Pl, hcs, _, hl, hm, hmm, hx, hcell⟩
  · simp at hcs
    subst hcs
    exact ⟨0, [], ⟨_, _, rfl, by omega, by simp, fun h => absurd h (by omega)⟩, ⟨_, _, rfl, by omega⟩, rfl, by omega, by simp⟩
  · simp at hcs
    subst hcs
    have hlm : len' ≤ m := by rw [hmm]; split <;> omega
    have each : ∀ i, i < m → ∃ cs' : List Value, cs'.length = size ∧ E cs' ∧ ∀ k, k < size → W.cell? ((a'.add (i * size)).add k) = cs'[k]? := fun i hi => by
      obtain ⟨cs', h1, h2⟩ := hcell i hi
      rw [hc] at h1
      obtain ⟨_, h3, h4⟩ := World.cells?_some h1
      exact ⟨cs', h3, hE _ _ _ h2, h4⟩
    obtain ⟨C, hC⟩ := choose_lt each
    have hlen : ∀ cs ∈ (List.range len').map C, cs.length = size ∧ E cs := fun cs hcs => by
      obtain ⟨i, hi, rfl⟩ := List.mem_map.1 hcs
      have := hC i (by have := List.mem_range.1 hi; omega)
      exact ⟨this.1, this.2.1⟩
    refine ⟨len', (List.range len').map C, ⟨_, _, rfl, by unfold maxLen at hm; omega, ?_, fun hpos => ?_⟩, ⟨_, _, rfl, by omega⟩, by simp, by omega, hlen⟩
    · have hflat : ∀ l : List (List Value), (∀ c ∈ l, c.length = size) → l.flatten.length = l.length * size := by
        intro l
        induction l with
        | nil => intro _; simp
        | cons c r ih => intro h; rw [List.flatten_cons, List.length_append, h c (by simp), ih (fun x hx => h x (by simp [hx])), List.length_cons, Nat.add_mul]; omega
      have := hflat ((List.range len').map C) (fun c hc => (hlen c hc).1)
      simpa using this
    · obtain ⟨b, off, spot⟩ := a'
      have hc0 := (hC 0 (by omega)).2.2 0 h0
      obtain ⟨u0, hu0⟩ : ∃ u, (C 0)[0]? = some u := by
        have := (hC 0 (by omega)).1
        exact ⟨(C 0)[0]'(by omega), List.getElem?_eq_getElem _⟩
      rw [hu0] at hc0
      have hspot : spot = none := by simpa [Addr.add] using World.cell?_spot hc0
      subst hspot
      have hb : b < W.heap.size := by
        have := World.block_lt_of_cell? _ _ hc0
        simpa [Addr.add] using this
      refine ⟨b, off, rfl, hb, ?_⟩
      refine flat_cells (f := fun i => W.cell? ⟨b, i, none⟩) ((List.range len').map C) off (fun c hc => (hlen c hc).1) (fun i c hi k hk => ?_)
      have hi' : i < len' ∧ C i = c := by
        have := List.getElem?_eq_some_iff.1 hi
        obtain ⟨h1, h2⟩ := this
        simp at h1 h2
        exact ⟨h1, h2⟩
      have h4 := (hC i (by omega)).2.2 k hk
      rw [hi'.2] at h4
      rw [← h4]
      rw [add_plain, add_plain]

end

theorem results_cell_slot {P : Program} {fn : Func} {p q : Tmp} {ty : TypeId} (h : fn.results = #[.cell p ty, .tmp q]) (tmps : Array Value) (w : World) (g : Nat) (t : TypeId) (cs : Array Value) (fr : Nat × Nat) (d : TypeDesc) (x : Value)
    (hp : tmps.getD p undef = .pointer (some ⟨g, 0, none⟩)) (hq : tmps.getD q undef = x) (hg : w.heap[g]? = some (.cells cs t fr))
    (hu : P.underlying ty = some d) (hd : (match d with | .struct _ | .array _ _ => true | _ => false) = true) (hi : (P.info? ty).map (·.size) = some cs.size) :
    (results fn tmps).run P w = .ok (.tuple #[.agg cs, x]) w := by
  have hp' : tmps[p]?.getD undef = .pointer (some ⟨g, 0, none⟩) := by simpa using hp
  have hq' : tmps[q]?.getD undef = x := by simpa using hq
  simp [results, h, hp', hq', asAddr, run_loadVar_row w g t ty cs fr d hg hu hd hi]
/-- A row stays where a cell of a block of another type is turned. -/
theorem own_set_other {W : World} {base g j : Nat} {e t : TypeId} {size n : Nat} {v : Value} {xs ys : List Value} (h : W.ownsRow base e size v n xs) (hA : Arr W g t ys) (hne : e ≠ t) (u : Value) : (W.setCell ⟨g, j, none⟩ u).ownsRow base e size v n xs := by
  refine ⟨h.1, ?_⟩
  rcases h.2 with hn | ⟨g', cap, cur, rfl, hb, hg, rest⟩
  · exact .inl hn
  · refine .inr ⟨g', cap, cur, rfl, hb, ?_, rest⟩
    rw [heap_setCell_other W ⟨g, j, none⟩ g' u (fun e9 => ?_)]
    · exact hg
    · have e9 : g' = g := e9
      subst e9
      unfold Arr at hA
      rw [hg] at hA
      cases hA
      exact hne rfl
theorem take_snoc {α : Type} (l : List α) (k : Nat) (h : k < l.length) : l.take (k + 1) = l.take k ++ [l[k]] := List.take_succ_eq_append_getElem h
end Go.Proofs.Ytmnpbpfeoackiaa
