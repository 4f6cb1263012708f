/-
  Package verify: a proof under way as it lies in the memory. No condition.
-/
import Derived.Test.YtejhiekikblbiaaGreatDoorMgJ
import Derived.Test.YtejhiekikblbiaaGreatDoorMgH
import Derived.Test.YtejhiekikblbiaaGreatDoorStoreT
import Derived.Test.YtejhiekikblbiaaGreatDoorMgL
import Derived.Test.YtejhiekikblbiaaGreatDoorAppB
namespace Go.Proofs.YtejhiekikblbiaaGreatDoor
open Go.RowKit

/-- A token that is proved: the key that made it, the token, where its tags lie. -/
structure PvA where
  k : List UInt8
  t : TokA
  g : Nat
  c : Nat
def PvA.plain (x : PvA) : List UInt8 × TokL := (x.k, x.t.plain)
def pvCells (x : PvA) : List Value := [.string (ofL x.t.id), .slice x.t.A x.t.l.length x.t.c, .string (ofL x.t.tag), .slice (some ⟨x.g, 0, none⟩) (x.t.l.length + 1) x.c]
def pvsCells (l : List PvA) : List Value := l.flatMap pvCells
theorem pvsCells_cons (x : PvA) (l : List PvA) : pvsCells (x :: l) = .string (ofL x.t.id) :: .slice x.t.A x.t.l.length x.t.c :: .string (ofL x.t.tag) :: .slice (some ⟨x.g, 0, none⟩) (x.t.l.length + 1) x.c :: pvsCells l := rfl
theorem pvsCells_append (l m : List PvA) : pvsCells (l ++ m) = pvsCells l ++ pvsCells m := by simp [pvsCells]
theorem length_pvsCells : ∀ l : List PvA, (pvsCells l).length = l.length * 4
  | [] => rfl
  | x :: l => by rw [pvsCells_cons, List.length_cons, List.length_cons, List.length_cons, List.length_cons, length_pvsCells l, List.length_cons]; omega
theorem pvsCells_get : ∀ (l : List PvA) (k : Nat) (h : k < l.length), (pvsCells l)[k * 4]? = some (.string (ofL l[k].t.id)) ∧ (pvsCells l)[k * 4 + 1]? = some (.slice l[k].t.A l[k].t.l.length l[k].t.c) ∧ (pvsCells l)[k * 4 + 2]? = some (.string (ofL l[k].t.tag)) ∧ (pvsCells l)[k * 4 + 3]? = some (.slice (some ⟨l[k].g, 0, none⟩) (l[k].t.l.length + 1) l[k].c)
  | [], k, h => by simp at h
  | x :: l, 0, _ => ⟨rfl, rfl, rfl, rfl⟩
  | x :: l, k + 1, h => by
    have ih := pvsCells_get l k (by simpa using h)
    rw [show (k + 1) * 4 = k * 4 + 1 + 1 + 1 + 1 by omega, pvsCells_cons]
    simp only [List.getElem?_cons_succ, List.getElem_cons_succ]
    exact ih
theorem oneCell_pvs : ∀ (l : List PvA), ∀ u ∈ pvsCells l, u.oneCell' = true
  | [], _, h => by cases h
  | x :: l, u, h => by
    rw [pvsCells_cons] at h
    rcases List.mem_cons.1 h with rfl | h
    · rfl
    · rcases List.mem_cons.1 h with rfl | h
      · rfl
      · rcases List.mem_cons.1 h with rfl | h
        · rfl
        · rcases List.mem_cons.1 h with rfl | h
          · rfl
          · exact oneCell_pvs l u h
set_option maxRecDepth 100000 in
theorem Tryz.elemPv : Elem Tryz.prog 77 121 (.agg #[.string ⟨#[]⟩, .slice none 0 0, .string ⟨#[]⟩, .slice none 0 0]) 4 80 :=
  ⟨Tryz.underlying77, info_parts (by kernel_rfl), rfl, by decide⟩
set_option maxRecDepth 100000 in
theorem Tryz.elemBool : Elem Tryz.prog 45 4 (.bool false) 1 1 :=
  ⟨Tryz.underlying45, info_parts (by kernel_rfl), rfl, by decide⟩
/-- The tags of a proved token. -/
def TagsAt (w W : World) (x : PvA) : Prop := W.ownsRow w.heap.size 9 1 (.slice (some ⟨x.g, 0, none⟩) (x.t.l.length + 1) x.c) (x.t.l.length + 1) ((tagsL x.k x.t.id x.t.l).map Str)
def prCells (t : TokA) (mv vu vl vt : Value) (work : Nat) : List Value := [.string (ofL t.id), .slice t.A t.l.length t.c, .string (ofL t.tag), mv, vu, vl, vt, .int .i64 work]
/-- A proof under way: w is the world that it began in, g its block. -/
structure PrSt (w W : World) (g : Nat) (t : TokA) (mv : Value) (more : List TokA) (s : PrL) (L : List PvA) (vu vl vt : Value) : Prop where
  ext : Ext w W
  far : w.heap.size ≤ g
  box : Arr W g 79 (prCells t mv vu vl vt s.work)
  used : W.ownsRow w.heap.size 4 1 vu more.length (s.used.map Value.bool)
  list : W.ownsRow w.heap.size 121 4 vl L.length (pvsCells L)
  texts : W.ownsRow w.heap.size 9 1 vt s.texts.length (s.texts.map Str)
  eq : s.list = L.map PvA.plain
  tags : ∀ x ∈ L, TagsAt w W x ∧ vt.ownBlock ≠ some x.g
  mem : ∀ x ∈ L, x.t = t ∨ x.t ∈ more

section
variable {w W W' : World} {g : Nat} {t : TokA} {mv : Value} {more : List TokA} {s : PrL} {L : List PvA} {vu vl vt : Value}
theorem PrSt.up (h : PrSt w W g t mv more s L vu vl vt) (e : Ext W W') : PrSt w W' g t mv more s L vu vl vt :=
  ⟨h.ext.tr e, h.far, h.box.ext e h.box.lt, own_ext h.used (fun j _ hj => e.block j hj), own_ext h.list (fun j _ hj => e.block j hj), own_ext h.texts (fun j _ hj => e.block j hj), h.eq, fun x hx => ⟨own_ext (h.tags x hx).1 (fun j _ hj => e.block j hj), (h.tags x hx).2⟩, h.mem⟩
theorem PrSt.drew (h : PrSt w W g t mv more s L vu vl vt) : PrSt w W.drew g t mv more s L vu vl vt := h.up (Ext.rfl' W).dr
/-- A cell of the proof's box is turned. -/
theorem PrSt.boxSet (h : PrSt w W g t mv more s L vu vl vt) (j : Nat) (u : Value) :
    Ext w (W.setCell ⟨g, j, none⟩ u) ∧ (W.setCell ⟨g, j, none⟩ u).ownsRow w.heap.size 4 1 vu more.length (s.used.map Value.bool) ∧ (W.setCell ⟨g, j, none⟩ u).ownsRow w.heap.size 121 4 vl L.length (pvsCells L) ∧
    (W.setCell ⟨g, j, none⟩ u).ownsRow w.heap.size 9 1 vt s.texts.length (s.texts.map Str) ∧ ∀ x ∈ L, TagsAt w (W.setCell ⟨g, j, none⟩ u) x :=
  ⟨h.ext.st (p := ⟨g, j, none⟩) h.far u, own_set_other h.used h.box (by decide) u, own_set_other h.list h.box (by decide) u, own_set_other h.texts h.box (by decide) u, fun x hx => own_set_other (h.tags x hx).1 h.box (by decide) u⟩
theorem PrSt.work (h : PrSt w W g t mv more s L vu vl vt) (n : Nat) : PrSt w (W.setCell ⟨g, 7, none⟩ (.int .i64 n)) g t mv more ⟨s.used, s.list, s.texts, n, s.sum⟩ L vu vl vt := by
  obtain ⟨a, b, c, d, e⟩ := h.boxSet 7 (.int .i64 n)
  exact ⟨a, h.far, h.box.set 7 _, b, c, d, h.eq, fun x hx => ⟨e x hx, (h.tags x hx).2⟩, h.mem⟩
/-- What was summed is not in the memory. -/
theorem PrSt.sum (h : PrSt w W g t mv more s L vu vl vt) (x : List (List UInt8)) : PrSt w W g t mv more ⟨s.used, s.list, s.texts, s.work, x⟩ L vu vl vt := ⟨h.ext, h.far, h.box, h.used, h.list, h.texts, h.eq, h.tags, h.mem⟩
theorem PrSt.of (h : PrSt w W g t mv more s L vu vl vt) {s' : PrL} (h1 : s.used = s'.used) (h2 : s.list = s'.list) (h3 : s.texts = s'.texts) (h4 : s.work = s'.work) : PrSt w W g t mv more s' L vu vl vt := by
  obtain ⟨a, b, c, d, e⟩ := s
  obtain ⟨a', b', c', d', e'⟩ := s'
  dsimp only at h1 h2 h3 h4
  subst h1 h2 h3 h4
  exact h.sum e'
/-- A discharge is marked as used. -/
theorem PrSt.mark (h : PrSt w W g t mv more s L vu vl vt) {gu cu : Nat} (hv : vu = .slice (some ⟨gu, 0, none⟩) more.length cu) (i : Nat) : PrSt w (W.setCell ⟨gu, i, none⟩ (.bool true)) g t mv more ⟨s.used.set i true, s.list, s.texts, s.work, s.sum⟩ L vu vl vt := by
  subst hv
  have hu := h.used
  have hg : W.grownBy (W.setCell ⟨gu, i, none⟩ (.bool true)) (Value.slice (some ⟨gu, 0, none⟩) more.length cu).ownBlock := grownBy_setCell W gu i (.bool true)
  refine ⟨h.ext.own hg hu (Nat.le_refl _), h.far, arr_kept_type h.box hu (by decide) hg, ?_, own_kept_type h.list hu (by decide) hg, own_kept_type h.texts hu (by decide) hg, h.eq, fun x hx => ⟨own_kept_type (h.tags x hx).1 hu (by decide) hg, (h.tags x hx).2⟩, h.mem⟩
  have := (hu.stored i (.bool true)).1
  rw [← List.map_set] at this
  exact this
/-- A text is told: the row has it; then the box. -/
structure PrTx (w W : World) (g : Nat) (t : TokA) (mv : Value) (more : List TokA) (s : PrL) (L : List PvA) (vu vl vt vt' : Value) (x : List UInt8) : Prop where
  ext : Ext w W
  far : w.heap.size ≤ g
  box : Arr W g 79 (prCells t mv vu vl vt s.work)
  used : W.ownsRow w.heap.size 4 1 vu more.length (s.used.map Value.bool)
  list : W.ownsRow w.heap.size 121 4 vl L.length (pvsCells L)
  texts : W.ownsRow w.heap.size 9 1 vt' (s.texts.length + 1) ((s.texts ++ [x]).map Str)
  eq : s.list = L.map PvA.plain
  tags : ∀ x ∈ L, TagsAt w W x ∧ vt'.ownBlock ≠ some x.g
  mem : ∀ x ∈ L, x.t = t ∨ x.t ∈ more
theorem PrTx.up {x : List UInt8} {vt' : Value} (h : PrTx w W g t mv more s L vu vl vt vt' x) (e : Ext W W') : PrTx w W' g t mv more s L vu vl vt vt' x :=
  ⟨h.ext.tr e, h.far, h.box.ext e h.box.lt, own_ext h.used (fun j _ hj => e.block j hj), own_ext h.list (fun j _ hj => e.block j hj), own_ext h.texts (fun j _ hj => e.block j hj), h.eq, fun x hx => ⟨own_ext (h.tags x hx).1 (fun j _ hj => e.block j hj), (h.tags x hx).2⟩, h.mem⟩
theorem PrSt.told (h : PrSt w W g t mv more s L vu vl vt) {vt' : Value} {x : List UInt8} (ho : W'.ownsRow w.heap.size 9 1 vt' (s.texts.length + 1) (s.texts.map Str ++ [Str x])) (hg : W.grownBy W' vt.ownBlock) (hn : NewOr W vt vt') : PrTx w W' g t mv more s L vu vl vt vt' x := by
  refine ⟨h.ext.own hg h.texts (Nat.le_refl _), h.far, arr_kept_type h.box h.texts (by decide) hg, own_kept_type h.used h.texts (by decide) hg, own_kept_type h.list h.texts (by decide) hg, own_eq ho (by rw [List.map_append]; rfl) rfl, h.eq, fun y hy => ?_, h.mem⟩
  obtain ⟨h1, h2⟩ := h.tags y hy
  refine ⟨h1.kept hg (.inr (fun e => h2 e.symm)), fun e => ?_⟩
  rcases hn with hn | hn
  · rw [hn] at e; exact h2 e
  · have := hn _ e
    have := (h1.lt y.g rfl).2
    omega
theorem PrTx.store {x : List UInt8} {vt' : Value} (h : PrTx w W g t mv more s L vu vl vt vt' x) : PrSt w (W.setCell ⟨g, 6, none⟩ vt') g t mv more ⟨s.used, s.list, s.texts ++ [x], s.work, s.sum⟩ L vu vl vt' :=
  ⟨h.ext.st (p := ⟨g, 6, none⟩) h.far _, h.far, h.box.set 6 _, own_set_other h.used h.box (by decide) _, own_set_other h.list h.box (by decide) _, own_eq (own_set_other h.texts h.box (by decide) _) rfl (by rw [List.length_append]; rfl), h.eq, fun x hx => ⟨own_set_other (h.tags x hx).1 h.box (by decide) _, (h.tags x hx).2⟩, h.mem⟩
/-- A token more on the list: the row has it; then the box. -/
structure PrLs (w W : World) (g : Nat) (t : TokA) (mv : Value) (more : List TokA) (s : PrL) (L : List PvA) (vu vl vt vl' : Value) (x : PvA) : Prop where
  ext : Ext w W
  far : w.heap.size ≤ g
  box : Arr W g 79 (prCells t mv vu vl vt s.work)
  used : W.ownsRow w.heap.size 4 1 vu more.length (s.used.map Value.bool)
  list : W.ownsRow w.heap.size 121 4 vl' (L.length + 1) (pvsCells (L ++ [x]))
  texts : W.ownsRow w.heap.size 9 1 vt s.texts.length (s.texts.map Str)
  eq : s.list = L.map PvA.plain
  tags : ∀ y ∈ L ++ [x], TagsAt w W y ∧ vt.ownBlock ≠ some y.g
  mem : ∀ y ∈ L ++ [x], y.t = t ∨ y.t ∈ more
theorem PrLs.up {x : PvA} {vl' : Value} (h : PrLs w W g t mv more s L vu vl vt vl' x) (e : Ext W W') : PrLs w W' g t mv more s L vu vl vt vl' x :=
  ⟨h.ext.tr e, h.far, h.box.ext e h.box.lt, own_ext h.used (fun j _ hj => e.block j hj), own_ext h.list (fun j _ hj => e.block j hj), own_ext h.texts (fun j _ hj => e.block j hj), h.eq, fun x hx => ⟨own_ext (h.tags x hx).1 (fun j _ hj => e.block j hj), (h.tags x hx).2⟩, h.mem⟩
theorem PrSt.listed (h : PrSt w W g t mv more s L vu vl vt) {vl' : Value} {x : PvA} (ho : W'.ownsRow w.heap.size 121 4 vl' (L.length + 1) (pvsCells L ++ pvCells x)) (hg : W.grownBy W' vl.ownBlock) (hx : TagsAt w W x) (hxt : vt.ownBlock ≠ some x.g) (hm : x.t = t ∨ x.t ∈ more) : PrLs w W' g t mv more s L vu vl vt vl' x := by
  refine ⟨h.ext.own hg h.list (Nat.le_refl _), h.far, arr_kept_type h.box h.list (by decide) hg, own_kept_type h.used h.list (by decide) hg, own_eq ho (by rw [pvsCells_append]; simp [pvsCells]) rfl, own_kept_type h.texts h.list (by decide) hg, h.eq, fun y hy => ?_, fun y hy => ?_⟩
  · rcases List.mem_append.1 hy with hy | hy
    · exact ⟨own_kept_type (h.tags y hy).1 h.list (by decide) hg, (h.tags y hy).2⟩
    · rw [List.mem_singleton.1 hy]; exact ⟨own_kept_type hx h.list (by decide) hg, hxt⟩
  · rcases List.mem_append.1 hy with hy | hy
    · exact h.mem y hy
    · rw [List.mem_singleton.1 hy]; exact hm
theorem PrLs.store {x : PvA} {vl' : Value} (h : PrLs w W g t mv more s L vu vl vt vl' x) : PrSt w (W.setCell ⟨g, 5, none⟩ vl') g t mv more ⟨s.used, s.list ++ [x.plain], s.texts, s.work, s.sum⟩ (L ++ [x]) vu vl' vt :=
  ⟨h.ext.st (p := ⟨g, 5, none⟩) h.far _, h.far, h.box.set 5 _, own_set_other h.used h.box (by decide) _, own_eq (own_set_other h.list h.box (by decide) _) rfl (by rw [List.length_append]; rfl), own_set_other h.texts h.box (by decide) _, by rw [List.map_append, ← h.eq]; rfl, fun x hx => ⟨own_set_other (h.tags x hx).1 h.box (by decide) _, (h.tags x hx).2⟩, h.mem⟩
end
end Go.Proofs.YtejhiekikblbiaaGreatDoor
