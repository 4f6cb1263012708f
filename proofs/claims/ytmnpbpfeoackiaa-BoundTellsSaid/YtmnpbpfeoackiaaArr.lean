/-
  An array that lies in a block of its own; a region of reads with a store at its end, over a world of any name. No condition.
-/
import Derived.Test.YtmnpbpfeoackiaaBase
import Derived.StillTailTactics
namespace Go.Proofs.Ytmnpbpfeoackiaa
open Go.RowKit

/-! ### an array in a block of its own -/
/-- The block g holds just these cells. -/
def Arr (w : World) (g : Nat) (t : TypeId) (xs : List Value) : Prop := w.heap[g]? = some (.cells xs.toArray t (0, 0))
theorem Arr.lt {w : World} {g : Nat} {t : TypeId} {xs : List Value} (h : Arr w g t xs) : g < w.heap.size := (Array.getElem?_eq_some_iff.1 h).1
theorem Arr.cell {w : World} {g : Nat} {t : TypeId} {xs : List Value} (h : Arr w g t xs) (j : Nat) : w.cell? ⟨g, j, none⟩ = xs[j]? := by
  rw [cell_of_row w g j _ t _ h]; simp
theorem Arr.frozen {w : World} {g : Nat} {t : TypeId} {xs : List Value} (h : Arr w g t xs) (j : Nat) : w.frozen? ⟨g, j, none⟩ = false := by
  unfold Arr at h
  simp [World.frozen?, h]
theorem Arr.set {w : World} {g : Nat} {t : TypeId} {xs : List Value} (h : Arr w g t xs) (j : Nat) (u : Value) : Arr (w.setCell ⟨g, j, none⟩ u) g t (xs.set j u) := by
  unfold Arr
  rw [heap_setCell_same w g j _ t u h, List.setIfInBounds_toArray]
theorem Arr.ext {w w' : World} {B g : Nat} {t : TypeId} {xs : List Value} (h : Arr w g t xs) (hE : Below B w w') (hg : g < B) : Arr w' g t xs := (hE.block g hg).trans h
theorem Arr.new (w : World) (t : TypeId) (xs : List Value) : Arr (w.alloc (.cells xs.toArray t)) w.heap.size t xs := heap_alloc_new w _
theorem Arr.alloc {w : World} {g : Nat} {t : TypeId} {xs : List Value} (h : Arr w g t xs) (o : Obj) : Arr (w.alloc o) g t xs := (Below.heap_alloc w o g h.lt).trans h
theorem Arr.drew {w : World} {g : Nat} {t : TypeId} {xs : List Value} (h : Arr w g t xs) (n : Nat) : Arr (w.drewN n) g t xs := h
theorem Arr.other {w : World} {g g' j : Nat} {t : TypeId} {xs : List Value} (h : Arr w g t xs) (u : Value) (hn : g ≠ g') : Arr (w.setCell ⟨g', j, none⟩ u) g t xs :=
  (heap_setCell_other w ⟨g', j, none⟩ g u hn).trans h
theorem Arr.row {w : World} {g : Nat} {t : TypeId} {xs : List Value} (h : Arr w g t xs) (ys : List Value) : Arr (w.setRow g ys.toArray) g t ys := setRow_heap w g _ _ t (0, 0) h
theorem Arr.rowOther {w : World} {g g' : Nat} {t : TypeId} {xs : List Value} (h : Arr w g t xs) (ys : Array Value) (hn : g ≠ g') : Arr (w.setRow g' ys) g t xs := (setRow_other w g' g ys hn).trans h
theorem Ext.row {a b : World} (h : Ext a b) {g : Nat} (hg : a.heap.size ≤ g) (c : Array Value) : Ext a (b.setRow g c) :=
  ⟨h.os, h.tape, h.output, by have := h.size; simpa using this, fun k hk => (setRow_other b g k c (by omega)).trans (h.block k hk)⟩
theorem set_fillV (acc : List Value) (z v : Value) (n : Nat) : (acc ++ List.replicate (n + 1) z).set acc.length v = (acc ++ [v]) ++ List.replicate n z := by
  rw [List.set_append_right _ _ (Nat.le_refl _), Nat.sub_self, List.replicate_succ, List.set_cons_zero, List.append_assoc]
  rfl
theorem cell_fill (acc : List Value) (z : Value) (n k : Nat) (h : acc.length = k) (hn : 0 < n) : (acc ++ List.replicate n z)[k]? = some z := by
  subst h
  rw [List.getElem?_append_right (Nat.le_refl _), Nat.sub_self, List.getElem?_replicate, if_pos hn]
theorem set_fillK (acc : List Value) (z v : Value) (n k : Nat) (h : acc.length = k) (hn : 0 < n) : (acc ++ List.replicate n z).set k v = (acc ++ [v]) ++ List.replicate (n - 1) z := by
  subst h
  obtain ⟨m, rfl⟩ : ∃ m, n = m + 1 := ⟨n - 1, by omega⟩
  exact set_fillV acc z v m

/-- A region of reads with a tail: the world behind the draw under a name of its own. -/
theorem wp_still_tail_any {P : Program} {id : Nat} {Q : Exit → Act → World → Prop} {a : Act} {w : World} {l : List Oper} (n : Nat) (hm : P.follows .mixedOrders = true) (hB : Region.lexTailB .any l.toArray n = true)
    (h : ∀ W : World, W = w.drew → wpStill P l.toArray W (fun a' => wpList P l.toArray Q (l.drop n) a' W) (l.take n) a) : (Code.region id l.toArray true).wp P Q a w :=
  wp_region_still_tail n hm hB (h w.drew rfl)
/-- append(v, x...) at a plain list: the new cells read at an address. -/
theorem wpl_app_at {P : Program} {t e : TypeId} {z : Value} {size bytes : Nat} (E : Elem P t e z size bytes) {w : World} {ops : Array Oper} {rest : List Oper} {o : Oper} {a : Act} {Q : Exit → Act → World → Prop} (hgd : o.guard = none) (s x : Operand) (ho : o.op = .call { callee := .builtin .append, args := #[s, x], argTypes := #[t, t] })
    {base : Nat} {v : Value} {n : Nat} {xs : List Value} (hown : w.ownsRow base e size v n xs) {ad : Addr} (m : Nat) {c : Nat} {news : List Value} (hs : a.eval s = v) (hx : a.eval x = .slice (some ad) m c)
    (hl : news.length = m * size) (hnews : ∀ j u, news[j]? = some u → w.cell? (ad.add j) = some u) (h1 : ∀ u ∈ news, u.oneCell' = true) (h63 : n + m ≤ 9223372036854775807) (hbytes : (n + m) * bytes ≤ 140737488355328) (hbase : base ≤ w.heap.size)
    (h : ∀ v' w', w'.ownsRow base e size v' (n + m) (xs ++ news) → w.grownBy w' v.ownBlock → wpList P ops Q rest (a.put o.dst v') w') : wpList P ops Q (o :: rest) a w :=
  wpList_plain hgd fun _ hK => wp_app E s x ho hown m hs hx hl hnews h1 h63 hbytes hbase fun v' w' h2 h3 => hK _ _ (h v' w' h2 h3)
end Go.Proofs.Ytmnpbpfeoackiaa
