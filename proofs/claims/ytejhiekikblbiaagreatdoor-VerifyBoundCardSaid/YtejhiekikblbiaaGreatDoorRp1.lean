/-
  The verification's reference: a proof under way as it lies in the memory. No condition.
-/
import Derived.Test.YtejhiekikblbiaaGreatDoorMgM
namespace Go.Proofs.YtejhiekikblbiaaGreatDoor
open Go.RowKit

section
variable {P : Program} {t e : TypeId} {z : Value} {size bytes : Nat}
/-- append(v, x...) of what is only read, with word of where the new row lies. -/
theorem wp_app_rd_blk (E : Elem P t e z size bytes) {w : World} {o : Oper} {a : Act} {K : Act → World → Prop} {Q : Exit → Act → World → Prop} (s x : Operand) (ho : o.op = .call { callee := .builtin .append, args := #[s, x], argTypes := #[t, t] })
    {base B : Nat} {v vx : Value} {n m : Nat} {xs news : List Value} (hown : w.ownsRow base e size v n xs) (hs : a.eval s = v) (hx : a.eval x = vx) (hr : Rd w B size vx m news)
    (h1 : ∀ u ∈ news, u.oneCell' = true) (h63 : n + m ≤ 9223372036854775807) (hbytes : (n + m) * bytes ≤ 140737488355328) (hbase : base ≤ w.heap.size)
    (h : ∀ v' w', w'.ownsRow base e size v' (n + m) (xs ++ news) → w.grownBy w' v.ownBlock → NewOr w v v' → K (a.put o.dst v') w') : o.wp P a w K Q := by
  obtain ⟨A, c, rfl, hm, hl, hc⟩ := hr
  cases A with
  | none =>
    obtain rfl : m = 0 := by
      rcases Nat.eq_zero_or_pos m with h0 | h0
      · exact h0
      · obtain ⟨b, off, hh, _⟩ := hc h0
        cases hh
    obtain rfl : news = [] := List.eq_nil_of_length_eq_zero (by simpa using hl)
    have hrun := run_app_nil E hown o.type c
    unfold Oper.wp execOp
    simp only [ho, resolve, invoke, builtin, Sem.run_bind, Sem.run_pure, Result.andThen_ok, List.map_toArray, List.map_cons, List.map_nil, hs, hx, hrun]
    exact h v w (by simpa using hown) ⟨rfl, rfl, rfl, Nat.le_refl _, fun _ _ _ => rfl⟩ (.inl rfl)
  | some ad =>
    refine wp_app_blk E s x ho hown m hs hx hl (fun j u hu => ?_) h1 h63 hbytes hbase h
    have h0 : 0 < m := by
      rcases Nat.eq_zero_or_pos m with h0 | h0
      · subst h0
        obtain rfl : news = [] := List.eq_nil_of_length_eq_zero (by simpa using hl)
        simp at hu
      · exact h0
    obtain ⟨b, off, hh, hb, hcell⟩ := hc h0
    cases hh
    rw [WideShapes.add_plain]
    exact hcell j u hu
theorem wpl_app_rd_blk (E : Elem P t e z size bytes) {w : World} {ops : Array Oper} {rest : List Oper} {o : Oper} {a : Act} {Q : Exit → Act → World → Prop} (hgd : o.guard = none) (s x : Operand) (ho : o.op = .call { callee := .builtin .append, args := #[s, x], argTypes := #[t, t] })
    {base B : Nat} {v vx : Value} {n m : Nat} {xs news : List Value} (hown : w.ownsRow base e size v n xs) (hs : a.eval s = v) (hx : a.eval x = vx) (hr : Rd w B size vx m news)
    (h1 : ∀ u ∈ news, u.oneCell' = true) (h63 : n + m ≤ 9223372036854775807) (hbytes : (n + m) * bytes ≤ 140737488355328) (hbase : base ≤ w.heap.size)
    (h : ∀ v' w', w'.ownsRow base e size v' (n + m) (xs ++ news) → w.grownBy w' v.ownBlock → NewOr w v v' → wpList P ops Q rest (a.put o.dst v') w') : wpList P ops Q (o :: rest) a w :=
  wpList_plain hgd fun _ hK => wp_app_rd_blk E s x ho hown hs hx hr h1 h63 hbytes hbase fun v' w' h2 h3 h4 => hK _ _ (h v' w' h2 h3 h4)
end

def rpBx (vu vt : Value) (n e : Nat) (vs : Value) : List Value := [vu, vt, .int .i64 n, .int .i64 e, vs]
theorem rpBx_get (vu vt : Value) (n e : Nat) (vs : Value) : (rpBx vu vt n e vs)[0]? = some vu ∧ (rpBx vu vt n e vs)[1]? = some vt ∧ (rpBx vu vt n e vs)[2]? = some (.int .i64 n) ∧ (rpBx vu vt n e vs)[3]? = some (.int .i64 e) ∧ (rpBx vu vt n e vs)[4]? = some vs := ⟨rfl, rfl, rfl, rfl, rfl⟩
def rp0 : List Value := rpBx (.slice none 0 0) (.slice none 0 0) 0 0 (.slice none 0 0)
def tagRef (x : PvA) : Value := .slice (some ⟨x.g, 0, none⟩) (x.t.l.length + 1) x.c
theorem oneCell_tagRef (l : List PvA) : ∀ u ∈ l.map tagRef, u.oneCell' = true := by
  intro u hu
  obtain ⟨x, _, rfl⟩ := List.mem_map.1 hu
  rfl
set_option maxRecDepth 100000 in
theorem Tryz.elemStrs : Elem Tryz.prog 81 23 (.slice none 0 0) 1 24 :=
  ⟨Tryz.underlying81, info_parts (by kernel_rfl), rfl, by decide⟩
/-- The reference's proof under way: the bundle's box, the result's, the proof's, the rows; K: the tokens, L: those whose tags are listed, E: those whose tags are there. -/
structure RpSt (w W : World) (t : TokA) (mv : Value) (more : List TokA) (s : PrL) (K : List TokA) (L E : List PvA) (vu vt vs vk vg : Value) (bx : List Value) : Prop where
  ext : Ext w W
  bun : Arr W w.heap.size 41 [.string (ofL t.id), .slice t.A t.l.length t.c, .string (ofL t.tag), mv]
  res : Arr W (w.heap.size + 1) 47 rp0
  box : Arr W (w.heap.size + 1 + 1) 47 bx
  used : W.ownsRow w.heap.size 4 1 vu s.used.length (s.used.map Value.bool)
  texts : W.ownsRow w.heap.size 9 1 vt s.texts.length (s.texts.map Str)
  sum : W.ownsRow w.heap.size 9 1 vs s.sum.length (s.sum.map Str)
  toks : W.ownsRow w.heap.size 33 3 vk K.length (toksCells K)
  tags : W.ownsRow w.heap.size 23 1 vg L.length (L.map tagRef)
  each : ∀ x ∈ E, TagsAt w W x ∧ vt.ownBlock ≠ some x.g ∧ vs.ownBlock ≠ some x.g
  dis : ∀ r, vt.ownBlock = some r → vs.ownBlock ≠ some r
  eq : s.list = L.map PvA.plain
  mem : ∀ x ∈ L, x.t = t ∨ x.t ∈ more

section
variable {w W W' : World} {t : TokA} {mv : Value} {more : List TokA} {s : PrL} {K : List TokA} {L E : List PvA} {vu vt vs vk vg : Value} {bx : List Value}
theorem RpSt.up (h : RpSt w W t mv more s K L E vu vt vs vk vg bx) (e : Ext W W') : RpSt w W' t mv more s K L E vu vt vs vk vg bx :=
  ⟨h.ext.tr e, h.bun.ext e h.bun.lt, h.res.ext e h.res.lt, h.box.ext e h.box.lt, own_ext h.used (fun j _ hj => e.block j hj), own_ext h.texts (fun j _ hj => e.block j hj), own_ext h.sum (fun j _ hj => e.block j hj), own_ext h.toks (fun j _ hj => e.block j hj), own_ext h.tags (fun j _ hj => e.block j hj),
   fun x hx => ⟨own_ext (h.each x hx).1 (fun j _ hj => e.block j hj), (h.each x hx).2⟩, h.dis, h.eq, h.mem⟩
theorem RpSt.drew (h : RpSt w W t mv more s K L E vu vt vs vk vg bx) : RpSt w W.drew t mv more s K L E vu vt vs vk vg bx := h.up (Ext.rfl' W).dr
/-- A cell of the proof's box is turned. -/
theorem RpSt.set (h : RpSt w W t mv more s K L E vu vt vs vk vg bx) (j : Nat) (u : Value) : RpSt w (W.setCell ⟨w.heap.size + 1 + 1, j, none⟩ u) t mv more s K L E vu vt vs vk vg (bx.set j u) :=
  ⟨h.ext.st (p := ⟨w.heap.size + 1 + 1, j, none⟩) (by show w.heap.size ≤ w.heap.size + 1 + 1; omega) u, h.bun.other u (by omega), h.res.other u (by omega), h.box.set j u, own_set_other h.used h.box (by decide) u, own_set_other h.texts h.box (by decide) u, own_set_other h.sum h.box (by decide) u,
   own_set_other h.toks h.box (by decide) u, own_set_other h.tags h.box (by decide) u, fun x hx => ⟨own_set_other (h.each x hx).1 h.box (by decide) u, (h.each x hx).2⟩, h.dis, h.eq, h.mem⟩
theorem RpSt.of (h : RpSt w W t mv more s K L E vu vt vs vk vg bx) {s' : PrL} (h1 : s.used = s'.used) (h2 : s.list = s'.list) (h3 : s.texts = s'.texts) (h4 : s.sum = s'.sum) : RpSt w W t mv more s' K L E vu vt vs vk vg bx := by
  obtain ⟨a, b, c, d, e⟩ := s
  obtain ⟨a', b', c', d', e'⟩ := s'
  dsimp only at h1 h2 h3 h4
  subst h1 h2 h3 h4
  exact ⟨h.ext, h.bun, h.res, h.box, h.used, h.texts, h.sum, h.toks, h.tags, h.each, h.dis, h.eq, h.mem⟩
theorem RpSt.bxe (h : RpSt w W t mv more s K L E vu vt vs vk vg bx) {bx' : List Value} (e : bx = bx') : RpSt w W t mv more s K L E vu vt vs vk vg bx' := by subst e; exact h
/-- The row of what is used is turned or grows. -/
theorem RpSt.usedTo (h : RpSt w W t mv more s K L E vu vt vs vk vg bx) {vu' : Value} {us : List Bool} (ho : W'.ownsRow w.heap.size 4 1 vu' us.length (us.map Value.bool)) (hg : W.grownBy W' vu.ownBlock) : RpSt w W' t mv more ⟨us, s.list, s.texts, s.work, s.sum⟩ K L E vu' vt vs vk vg bx :=
  ⟨h.ext.own hg h.used (Nat.le_refl _), arr_kept_type h.bun h.used (by decide) hg, arr_kept_type h.res h.used (by decide) hg, arr_kept_type h.box h.used (by decide) hg, ho, own_kept_type h.texts h.used (by decide) hg, own_kept_type h.sum h.used (by decide) hg, own_kept_type h.toks h.used (by decide) hg, own_kept_type h.tags h.used (by decide) hg,
   fun x hx => ⟨own_kept_type (h.each x hx).1 h.used (by decide) hg, (h.each x hx).2⟩, h.dis, h.eq, h.mem⟩
theorem RpSt.mark (h : RpSt w W t mv more s K L E vu vt vs vk vg bx) {gu cu n : Nat} (hv : vu = .slice (some ⟨gu, 0, none⟩) n cu) (i : Nat) : RpSt w (W.setCell ⟨gu, i, none⟩ (.bool true)) t mv more ⟨s.used.set i true, s.list, s.texts, s.work, s.sum⟩ K L E vu vt vs vk vg bx := by
  refine h.usedTo ?_ (by subst hv; exact grownBy_setCell W gu i (.bool true))
  have hu := h.used
  have hn : n = s.used.length := by
    subst hv
    rcases hu.2 with ⟨e, _⟩ | ⟨g', cap, cur, e, _⟩
    · cases e
    · cases e; rfl
  subst hn
  subst hv
  rw [List.length_set, List.map_set]
  exact (hu.stored i (.bool true)).1
/-- The row of texts that are told grows. -/
theorem RpSt.told (h : RpSt w W t mv more s K L E vu vt vs vk vg bx) {vt' : Value} {xs : List (List UInt8)} (ho : W'.ownsRow w.heap.size 9 1 vt' (s.texts.length + xs.length) (s.texts.map Str ++ xs.map Str)) (hg : W.grownBy W' vt.ownBlock) (hn : NewOr W vt vt') : RpSt w W' t mv more ⟨s.used, s.list, s.texts ++ xs, s.work, s.sum⟩ K L E vu vt' vs vk vg bx := by
  refine ⟨h.ext.own hg h.texts (Nat.le_refl _), arr_kept_type h.bun h.texts (by decide) hg, arr_kept_type h.res h.texts (by decide) hg, arr_kept_type h.box h.texts (by decide) hg, own_kept_type h.used h.texts (by decide) hg, own_eq ho (by rw [List.map_append]) (by rw [List.length_append]),
    h.sum.kept hg ?_, own_kept_type h.toks h.texts (by decide) hg, own_kept_type h.tags h.texts (by decide) hg, fun x hx => ?_, fun r hr => ?_, h.eq, h.mem⟩
  · cases he : vs.ownBlock with
    | none => exact .inl rfl
    | some r =>
      refine .inr fun e => ?_
      exact h.dis r e.symm he
  · obtain ⟨h1, h2, h3⟩ := h.each x hx
    refine ⟨h1.kept hg (.inr (fun e => h2 e.symm)), fun e => ?_, h3⟩
    rcases hn with hn | hn
    · rw [hn] at e; exact h2 e
    · have := hn _ e
      have := (h1.lt x.g rfl).2
      omega
  · rcases hn with hn | hn
    · rw [hn] at hr; exact h.dis r hr
    · intro e
      have := hn _ hr
      have := (h.sum.lt r e).2
      omega
/-- The row of texts that were summed grows. -/
theorem RpSt.summed (h : RpSt w W t mv more s K L E vu vt vs vk vg bx) {vs' : Value} {xs : List (List UInt8)} (ho : W'.ownsRow w.heap.size 9 1 vs' (s.sum.length + xs.length) (s.sum.map Str ++ xs.map Str)) (hg : W.grownBy W' vs.ownBlock) (hn : NewOr W vs vs') : RpSt w W' t mv more ⟨s.used, s.list, s.texts, s.work, s.sum ++ xs⟩ K L E vu vt vs' vk vg bx := by
  refine ⟨h.ext.own hg h.sum (Nat.le_refl _), arr_kept_type h.bun h.sum (by decide) hg, arr_kept_type h.res h.sum (by decide) hg, arr_kept_type h.box h.sum (by decide) hg, own_kept_type h.used h.sum (by decide) hg,
    h.texts.kept hg ?_, own_eq ho (by rw [List.map_append]) (by rw [List.length_append]), own_kept_type h.toks h.sum (by decide) hg, own_kept_type h.tags h.sum (by decide) hg, fun x hx => ?_, fun r hr => ?_, h.eq, h.mem⟩
  · cases he : vt.ownBlock with
    | none => exact .inl rfl
    | some r =>
      refine .inr fun e => ?_
      exact h.dis r he e.symm
  · obtain ⟨h1, h2, h3⟩ := h.each x hx
    refine ⟨h1.kept hg (.inr (fun e => h3 e.symm)), h2, fun e => ?_⟩
    rcases hn with hn | hn
    · rw [hn] at e; exact h3 e
    · have := hn _ e
      have := (h1.lt x.g rfl).2
      omega
  · intro e
    rcases hn with hn | hn
    · rw [hn] at e; exact h.dis r hr e
    · have := hn _ e
      have := (h.texts.lt r hr).2
      omega
/-- A token more. -/
theorem RpSt.tokTo (h : RpSt w W t mv more s K L E vu vt vs vk vg bx) {vk' : Value} {x : TokA} (ho : W'.ownsRow w.heap.size 33 3 vk' (K.length + 1) (toksCells K ++ tokCells x)) (hg : W.grownBy W' vk.ownBlock) : RpSt w W' t mv more s (K ++ [x]) L E vu vt vs vk' vg bx :=
  ⟨h.ext.own hg h.toks (Nat.le_refl _), arr_kept_type h.bun h.toks (by decide) hg, arr_kept_type h.res h.toks (by decide) hg, arr_kept_type h.box h.toks (by decide) hg, own_kept_type h.used h.toks (by decide) hg, own_kept_type h.texts h.toks (by decide) hg, own_kept_type h.sum h.toks (by decide) hg,
   own_eq ho (by rw [toksCells_append]; simp [toksCells]) (by rw [List.length_append]; rfl), own_kept_type h.tags h.toks (by decide) hg,
   fun x hx => ⟨own_kept_type (h.each x hx).1 h.toks (by decide) hg, (h.each x hx).2⟩, h.dis, h.eq, h.mem⟩
/-- Its tags are listed. -/
theorem RpSt.tagTo (h : RpSt w W t mv more s K L E vu vt vs vk vg bx) {vg' : Value} {x : PvA} (ho : W'.ownsRow w.heap.size 23 1 vg' (L.length + 1) (L.map tagRef ++ [tagRef x])) (hg : W.grownBy W' vg.ownBlock) (hm : x.t = t ∨ x.t ∈ more) : RpSt w W' t mv more ⟨s.used, s.list ++ [x.plain], s.texts, s.work, s.sum⟩ K (L ++ [x]) E vu vt vs vk vg' bx := by
  refine ⟨h.ext.own hg h.tags (Nat.le_refl _), arr_kept_type h.bun h.tags (by decide) hg, arr_kept_type h.res h.tags (by decide) hg, arr_kept_type h.box h.tags (by decide) hg, own_kept_type h.used h.tags (by decide) hg, own_kept_type h.texts h.tags (by decide) hg, own_kept_type h.sum h.tags (by decide) hg,
   own_kept_type h.toks h.tags (by decide) hg, own_eq ho (by rw [List.map_append]; rfl) (by rw [List.length_append]; rfl), fun y hy => ⟨own_kept_type (h.each y hy).1 h.tags (by decide) hg, (h.each y hy).2⟩, h.dis, by rw [List.map_append, ← h.eq]; rfl, fun y hy => ?_⟩
  rcases List.mem_append.1 hy with hy | hy
  · exact h.mem y hy
  · rw [List.mem_singleton.1 hy]; exact hm
/-- Its tags are there. -/
theorem RpSt.know (h : RpSt w W t mv more s K L E vu vt vs vk vg bx) {x : PvA} (hx : TagsAt w W x) (h1 : vt.ownBlock ≠ some x.g) (h2 : vs.ownBlock ≠ some x.g) : RpSt w W t mv more s K L (E ++ [x]) vu vt vs vk vg bx :=
  ⟨h.ext, h.bun, h.res, h.box, h.used, h.texts, h.sum, h.toks, h.tags, fun y hy => by
    rcases List.mem_append.1 hy with hy | hy
    · exact h.each y hy
    · rw [List.mem_singleton.1 hy]; exact ⟨hx, h1, h2⟩, h.dis, h.eq, h.mem⟩
/-- The proof is laid into the result's box. -/
theorem RpSt.five {n e : Nat} (h : RpSt w W t mv more s K L E vu vt vs vk vg (rpBx vu vt n e vs)) : ∃ W', ((((W.setCell ⟨w.heap.size + 1, 0, none⟩ vu).setCell ⟨w.heap.size + 1, 1, none⟩ vt).setCell ⟨w.heap.size + 1, 2, none⟩ (.int .i64 n)).setCell ⟨w.heap.size + 1, 3, none⟩ (.int .i64 e)).setCell ⟨w.heap.size + 1, 4, none⟩ vs = W' ∧
    Arr W' (w.heap.size + 1) 47 (rpBx vu vt n e vs) ∧ W'.ownsRow w.heap.size 4 1 vu s.used.length (s.used.map Value.bool) ∧ W'.ownsRow w.heap.size 9 1 vt s.texts.length (s.texts.map Str) ∧ W'.ownsRow w.heap.size 9 1 vs s.sum.length (s.sum.map Str) ∧ Ext w W' := by
  have r0 := h.res
  have r1 := r0.set 0 vu; have r2 := r1.set 1 vt; have r3 := r2.set 2 (.int .i64 n); have r4 := r3.set 3 (.int .i64 e); have r5 := r4.set 4 vs
  have five : ∀ {ty : TypeId} {v : Value} {m : Nat} {xs : List Value}, ty ≠ 47 → W.ownsRow w.heap.size ty 1 v m xs → (((((W.setCell ⟨w.heap.size + 1, 0, none⟩ vu).setCell ⟨w.heap.size + 1, 1, none⟩ vt).setCell ⟨w.heap.size + 1, 2, none⟩ (.int .i64 n)).setCell ⟨w.heap.size + 1, 3, none⟩ (.int .i64 e)).setCell ⟨w.heap.size + 1, 4, none⟩ vs).ownsRow w.heap.size ty 1 v m xs :=
    fun hne ho => own_set_other (own_set_other (own_set_other (own_set_other (own_set_other ho r0 hne _) r1 hne _) r2 hne _) r3 hne _) r4 hne _
  refine ⟨_, rfl, r5, five (by decide) h.used, five (by decide) h.texts, five (by decide) h.sum, ?_⟩
  have h1 : w.heap.size ≤ w.heap.size + 1 := by omega
  exact ((((h.ext.st (p := ⟨w.heap.size + 1, 0, none⟩) h1 _).st (p := ⟨w.heap.size + 1, 1, none⟩) h1 _).st (p := ⟨w.heap.size + 1, 2, none⟩) h1 _).st (p := ⟨w.heap.size + 1, 3, none⟩) h1 _).st (p := ⟨w.heap.size + 1, 4, none⟩) h1 _
end
/-- What the reference's proof returns. -/
def RpPost (w : World) (r : PrL × Nat) (e : Ending) (w' : World) : Prop := ∃ vu vt vs, e = .returned (.agg #[vu, vt, .int .i64 r.1.work, .int .i64 r.2, vs]) ∧ w'.ownsRow w.heap.size 4 1 vu r.1.used.length (r.1.used.map Value.bool) ∧
  w'.ownsRow w.heap.size 9 1 vt r.1.texts.length (r.1.texts.map Str) ∧ w'.ownsRow w.heap.size 9 1 vs r.1.sum.length (r.1.sum.map Str) ∧ Ext w w'
theorem rp_boxes (w : World) (a b c d : Value) : ∃ W, (((w.alloc (.cells #[a, b, c, d] 41)).alloc (.cells #[.slice none 0 0, .slice none 0 0, .int .i64 0, .int .i64 0, .slice none 0 0] 47)).alloc (.cells #[.slice none 0 0, .slice none 0 0, .int .i64 0, .int .i64 0, .slice none 0 0] 47)) = W ∧ Ext w W ∧ W.heap.size = w.heap.size + 3 ∧
    Arr W w.heap.size 41 [a, b, c, d] ∧ Arr W (w.heap.size + 1) 47 rp0 ∧ Arr W (w.heap.size + 1 + 1) 47 rp0 := by
  refine ⟨_, rfl, (((Ext.rfl' w).al _).al _).al _, by simp, ((Arr.new w 41 [a, b, c, d]).alloc _).alloc _, ?_, ?_⟩
  · have q := (Arr.new (w.alloc (.cells #[a, b, c, d] 41)) 47 rp0).alloc (.cells #[.slice none 0 0, .slice none 0 0, .int .i64 0, .int .i64 0, .slice none 0 0] 47)
    rw [World.size_alloc] at q
    exact q
  · have q := Arr.new ((w.alloc (.cells #[a, b, c, d] 41)).alloc (.cells #[.slice none 0 0, .slice none 0 0, .int .i64 0, .int .i64 0, .slice none 0 0] 47)) 47 rp0
    rw [World.size_alloc, World.size_alloc] at q
    exact q

set_option maxRecDepth 100000 in
set_option maxHeartbeats 2000000 in
theorem rlast_any (w : World) (xs : List (List UInt8)) (x : List UInt8) (v : Value) (n : Nat) (h : Rd w w.heap.size 1 v (n + 1) (xs.map Str)) (hx : xs[n]? = some x) (hn : n ≤ 100000) : Calls Tryz.prog 50 #[v] w fun e w' => e = .returned (.string (ofL x)) ∧ Ext w w' := by
  obtain ⟨A, c, rfl, hm, hl, hc⟩ := h
  obtain ⟨b, off, rfl, hb, hcell⟩ := hc (by omega)
  have q := hcell n (.string (ofL x)) (by rw [List.getElem?_map, hx]; rfl)
  have w1 : (n : Int) + 1 - 1 = n := by omega
  have w2 : IntKind.i64.wrap (n : Int) = n := IntWalk.i64_in _ (by omega)
  clear hcell hc hm hl
  go_enter Tryz.func50, Tryz.ntmps50
  go_wp2
  go_ret
  exact ⟨rfl, Ext.rfl' _⟩

/-! ### the first discharge, from the last to the first -/
def Found (M : List TokL) (used : List Bool) (tk : List UInt8) (m : Nat) (r : Option Nat) : Prop :=
  (r = none ∧ ∀ i, m ≤ i → ∀ d, M[i]? = some d → used[i]? = some false → d.id ≠ tk) ∨
  (∃ i, r = some i ∧ m ≤ i ∧ (∃ d, M[i]? = some d ∧ used[i]? = some false ∧ d.id = tk) ∧ ∀ i', m ≤ i' → i' < i → ∀ d, M[i']? = some d → used[i']? = some false → d.id ≠ tk)
theorem Found.start (M : List TokL) (used : List Bool) (tk : List UInt8) {m : Nat} (h : M.length ≤ m) : Found M used tk m none :=
  .inl ⟨rfl, fun i hi d hd => by rw [List.getElem?_eq_none (by omega)] at hd; cases hd⟩
theorem Found.skip {M : List TokL} {used : List Bool} {tk : List UInt8} {m : Nat} {r : Option Nat} (h : Found M used tk (m + 1) r) (hno : ∀ d, M[m]? = some d → used[m]? = some false → d.id ≠ tk) : Found M used tk m r := by
  rcases h with ⟨h1, h2⟩ | ⟨i, h1, h2, h3, h4⟩
  · refine .inl ⟨h1, fun i hi d hd hu => ?_⟩
    rcases Nat.eq_or_lt_of_le hi with rfl | hi
    · exact hno d hd hu
    · exact h2 i hi d hd hu
  · refine .inr ⟨i, h1, by omega, h3, fun i' hi' hlt d hd hu => ?_⟩
    rcases Nat.eq_or_lt_of_le hi' with rfl | hi'
    · exact hno d hd hu
    · exact h4 i' hi' hlt d hd hu
theorem Found.hit {M : List TokL} {used : List Bool} {tk : List UInt8} {m : Nat} {d : TokL} (h1 : M[m]? = some d) (h2 : used[m]? = some false) (h3 : d.id = tk) : Found M used tk m (some m) :=
  .inr ⟨m, rfl, Nat.le_refl _, ⟨d, h1, h2, h3⟩, fun i' h h' => by omega⟩
theorem Found.done {M : List TokL} {used : List Bool} {tk : List UInt8} {r : Option Nat} (hl : M.length = used.length) (h : Found M used tk 0 r) : findL tk M used = r := by
  rcases h with ⟨rfl, h2⟩ | ⟨i, rfl, _, ⟨d, h3, h4, h5⟩, h6⟩
  · exact findL_not hl (fun j _ d hd hu => h2 j (by omega) d hd hu)
  · exact findL_here hl (fun j hj d hd hu => h6 j (by omega) hj d hd hu) h3 h4 h5
def atV (r : Option Nat) : Value := .int .i64 (match r with | none => -1 | some i => (i : Int))
end Go.Proofs.YtejhiekikblbiaaGreatDoor
