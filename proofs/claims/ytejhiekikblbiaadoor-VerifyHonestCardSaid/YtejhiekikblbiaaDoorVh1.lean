/-
  What an honest holder puts together, as it lies in the memory; acts as an argument. No condition.
-/
import Derived.Test.YtejhiekikblbiaaDoorVe6
import Derived.Test.YtejhiekikblbiaaDoorNo4
import Derived.Test.YtejhiekikblbiaaDoorMgI
import Derived.Test.YtejhiekikblbiaaDoorHo11
namespace Go.Proofs.YtejhiekikblbiaaDoor
open Go.RowKit Go.ChangeShapes Go.WideShapes Go.Deep

section
variable {P : Program} {t e : TypeId} {z : Value} {size bytes : Nat}
/-- append(v, x...) of what is only read, with word of where the new row lies. -/
theorem wp_app_rd_blk (E : Elem P t e z size bytes) {w : World} {o : Oper} {a : Act} {K : Act → World → Prop} {Q : Exit → Act → World → Prop} (s x : Operand) (ho : o.op = .call { callee := .builtin .append, args := #[s, x], argTypes := #[t, t] })
    {base B : Nat} {v vx : Value} {n m : Nat} {xs news : List Value} (hown : w.ownsRow base e size v n xs) (hs : a.eval s = v) (hx : a.eval x = vx) (hr : Rd w B size vx m news)
    (h1 : ∀ u ∈ news, u.oneCell' = true) (h63 : n + m ≤ 9223372036854775807) (hbytes : (n + m) * bytes ≤ 140737488355328) (hbase : base ≤ w.heap.size)
    (h : ∀ v' w', w'.ownsRow base e size v' (n + m) (xs ++ news) → w.grownBy w' v.ownBlock → NewOr w v v' → K (a.put o.dst v') w') : o.wp P a w K Q := by
  obtain ⟨A, c, rfl, hm, hl, hc⟩ := hr
  cases A with
  | none =>
    obtain rfl : m = 0 := by
      rcases Nat.eq_zero_or_pos m with h0 | h0
      · exact h0
      · obtain ⟨b, off, hh, _⟩ := hc h0
        cases hh
    obtain rfl : news = [] := List.eq_nil_of_length_eq_zero (by simpa using hl)
    have hrun := run_app_nil E hown o.type c
    unfold Oper.wp execOp
    simp only [ho, resolve, invoke, builtin, Sem.run_bind, Sem.run_pure, Result.andThen_ok, List.map_toArray, List.map_cons, List.map_nil, hs, hx, hrun]
    exact h v w (by simpa using hown) ⟨rfl, rfl, rfl, Nat.le_refl _, fun _ _ _ => rfl⟩ (.inl rfl)
  | some ad =>
    refine wp_app_blk E s x ho hown m hs hx hl (fun j u hu => ?_) h1 h63 hbytes hbase h
    have h0 : 0 < m := by
      rcases Nat.eq_zero_or_pos m with h0 | h0
      · subst h0
        obtain rfl : news = [] := List.eq_nil_of_length_eq_zero (by simpa using hl)
        simp at hu
      · exact h0
    obtain ⟨b, off, hh, hb, hcell⟩ := hc h0
    cases hh
    rw [WideShapes.add_plain]
    exact hcell j u hu
theorem wpl_app_rd_blk (E : Elem P t e z size bytes) {w : World} {ops : Array Oper} {rest : List Oper} {o : Oper} {a : Act} {Q : Exit → Act → World → Prop} (hgd : o.guard = none) (s x : Operand) (ho : o.op = .call { callee := .builtin .append, args := #[s, x], argTypes := #[t, t] })
    {base B : Nat} {v vx : Value} {n m : Nat} {xs news : List Value} (hown : w.ownsRow base e size v n xs) (hs : a.eval s = v) (hx : a.eval x = vx) (hr : Rd w B size vx m news)
    (h1 : ∀ u ∈ news, u.oneCell' = true) (h63 : n + m ≤ 9223372036854775807) (hbytes : (n + m) * bytes ≤ 140737488355328) (hbase : base ≤ w.heap.size)
    (h : ∀ v' w', w'.ownsRow base e size v' (n + m) (xs ++ news) → w.grownBy w' v.ownBlock → NewOr w v v' → wpList P ops Q rest (a.put o.dst v') w') : wpList P ops Q (o :: rest) a w :=
  wpList_plain hgd fun _ hK => wp_app_rd_blk E s x ho hown hs hx hr h1 h63 hbytes hbase fun v' w' h2 h3 h4 => hK _ _ (h v' w' h2 h3 h4)
/-- At a guarded step of a plain list whose guard lets it through. -/
theorem wpl_app_rd_on (E : Elem P t e z size bytes) {w : World} {ops : Array Oper} {rest : List Oper} {o : Oper} {a : Act} {Q : Exit → Act → World → Prop} (hgd : Region.wanted o (yielded ops a.tmps) = true) (s x : Operand) (ho : o.op = .call { callee := .builtin .append, args := #[s, x], argTypes := #[t, t] })
    {base B : Nat} {v vx : Value} {n m : Nat} {xs news : List Value} (hown : w.ownsRow base e size v n xs) (hs : a.eval s = v) (hx : a.eval x = vx) (hr : Rd w B size vx m news)
    (h1 : ∀ u ∈ news, u.oneCell' = true) (h63 : n + m ≤ 9223372036854775807) (hbytes : (n + m) * bytes ≤ 140737488355328) (hbase : base ≤ w.heap.size)
    (h : ∀ v' w', w'.ownsRow base e size v' (n + m) (xs ++ news) → w.grownBy w' v.ownBlock → NewOr w v v' → wpList P ops Q rest (a.put o.dst v') w') : wpList P ops Q (o :: rest) a w := by
  unfold wpList
  rw [if_pos hgd]
  exact .inl (wp_app_rd_blk E s x ho hown hs hx hr h1 h63 hbytes hbase h)
end

/-- What a holder does, as an argument. -/
structure ActA where
  third : Bool
  text : List UInt8
  A : Option Addr
  c : Nat
  l : List (List UInt8)
def actCells (a : ActA) : List Value := [.bool a.third, .string (ofL a.text), .slice a.A a.l.length a.c]
def actsCells (l : List ActA) : List Value := l.flatMap actCells
theorem actsCells_cons (t : ActA) (l : List ActA) : actsCells (t :: l) = .bool t.third :: .string (ofL t.text) :: .slice t.A t.l.length t.c :: actsCells l := rfl
theorem length_actsCells : ∀ l : List ActA, (actsCells l).length = l.length * 3
  | [] => rfl
  | x :: l => by rw [actsCells_cons, List.length_cons, List.length_cons, List.length_cons, length_actsCells l, List.length_cons]; omega
theorem actsCells_get : ∀ (l : List ActA) (k : Nat) (h : k < l.length), (actsCells l)[k * 3]? = some (.bool l[k].third) ∧ (actsCells l)[k * 3 + 1]? = some (.string (ofL l[k].text)) ∧ (actsCells l)[k * 3 + 2]? = some (.slice l[k].A l[k].l.length l[k].c)
  | [], k, h => by simp at h
  | x :: l, 0, _ => ⟨rfl, rfl, rfl⟩
  | x :: l, k + 1, h => by
    have ih := actsCells_get l k (by simpa using h)
    rw [show (k + 1) * 3 = k * 3 + 1 + 1 + 1 by omega, actsCells_cons]
    simp only [List.getElem?_cons_succ, List.getElem_cons_succ]
    exact ih
def ActOk (W : World) (a : ActA) : Prop := Rd W W.heap.size 1 (.slice a.A a.l.length a.c) a.l.length (a.l.map Str)
theorem flat_strs : ∀ l : List (List UInt8), (l.map fun x : List UInt8 => [Str x]).flatten = l.map Str
  | [] => rfl
  | x :: l => by rw [List.map_cons, List.flatten_cons, flat_strs l]; rfl
set_option maxRecDepth 100000 in
theorem actCells_open {H : Type} {enc : TypeId × Value → H} {W : World} {n : Nat} {cs : List Value} {x : DataW H × List MemPlace} (hx : DataW.trod enc Tryd.prog W 0 (fun _ => true) true n 69 cs = some x) : ∃ t : ActA, cs = actCells t ∧ ActOk W t := by
  obtain ⟨hl, hf⟩ := trod_cells Tryd.underlying69 (by kernel_rfl) (by kernel_rfl) hx
  obtain ⟨_, v0, _, k0, h0⟩ := hf 0 _ rfl
  obtain ⟨_, v1, _, k1, h1⟩ := hf 1 _ rfl
  obtain ⟨_, v2, _, k2, h2⟩ := hf 2 _ rfl
  obtain ⟨b, e0, _, _⟩ := DataW.trod_bool Tryd.underlying4 h0
  obtain ⟨t, e1, _, _⟩ := DataW.trod_string Tryd.underlying9 h1
  obtain rfl : v0 = .bool b := by simpa using e0
  obtain rfl : v1 = .string t := by simpa using e1
  obtain ⟨k, css, hrd, ⟨A, c, rfl, hcap⟩, hlen, _, hall⟩ := open_rdT Tryd.underlying41 1 (by kernel_rfl) (by omega) (fun cs => ∃ x : List UInt8, cs = [Str x] ∧ True) (fun n cs x hx => by
    obtain ⟨s, h1, _, _⟩ := DataW.trod_string Tryd.underlying9 hx
    exact ⟨toL s, by rw [h1]; unfold Str; rw [ofL_toL], trivial⟩) h2
  obtain ⟨l, rfl, _⟩ := list_choose (g := fun x : List UInt8 => [Str x]) css (fun cs hcs => (hall cs hcs).2)
  rw [List.length_map] at hlen
  subst hlen
  rw [flat_strs] at hrd
  refine ⟨⟨b, toL t, A, c, l⟩, ?_, hrd⟩
  unfold actCells
  rw [ofL_toL]
  match cs, hl, k0, k1, k2 with
  | [a, b, d], _, k0, k1, k2 => simp at k0 k1 k2; rw [k0, k1, k2]
theorem flat_acts : ∀ l : List ActA, (l.map actCells).flatten = actsCells l
  | [] => rfl
  | x :: l => by rw [List.map_cons, List.flatten_cons, flat_acts l]; rfl
set_option maxRecDepth 100000 in
theorem acts_open {H : Type} {enc : TypeId × Value → H} {W : World} {r : Reach} {b0 : Nat} {v : Value} {d : DataW H} {ps : List MemPlace} (hv : Value.okWide Tryd.prog W r b0 66 v) (h : DataW.Trod enc Tryd.prog W 0 (fun _ => true) true 66 v d ps) : ∃ ts : List ActA, Rd W W.heap.size 3 v ts.length (actsCells ts) ∧ ts.length ≤ maxLen ∧ ∀ t ∈ ts, ActOk W t := by
  obtain ⟨n, css, h1, h2, h3, h4⟩ := open_rd Tryd.underlying66 3 (by kernel_rfl) (by omega) (fun cs => ∃ t : ActA, cs = actCells t ∧ ActOk W t) (fun n cs x hx => actCells_open hx) hv h
  obtain ⟨ts, rfl, h5⟩ := list_choose (g := actCells) css (fun c hc => (h4 c hc).2)
  rw [List.length_map] at h2
  subst h2
  rw [flat_acts] at h1
  exact ⟨ts, h1, h3, h5⟩

/-! ### the holder's state -/
theorem own_set_low {W : World} {base g j : Nat} {e : TypeId} {size n : Nat} {v : Value} {xs : List Value} (h : W.ownsRow base e size v n xs) (hg : g < base) (u : Value) : (W.setCell ⟨g, j, none⟩ u).ownsRow base e size v n xs :=
  own_ext h (fun k hk _ => heap_setCell_other W ⟨g, j, none⟩ k u (by show k ≠ g; omega))
/-- The token's block g; the token, its discharges, the own texts, the others'. -/
structure VhSt (w W : World) (g : Nat) (X : TokA) (vm : Value) (D : List TokA) (vo : Value) (O : List (List UInt8)) (vr : Value) (R : List (List UInt8)) : Prop where
  ext : Ext w W
  far : w.heap.size ≤ g
  cur : Arr W g 24 [.string (ofL X.id), .slice X.A X.l.length X.c, .string (ofL X.tag)]
  lnk : W.ownsRow (g + 1) 52 2 (.slice X.A X.l.length X.c) X.l.length (linkCells X.l)
  more : W.ownsRow (g + 1) 24 3 vm D.length (toksCells D)
  dlk : ∀ d ∈ D, W.ownsRow (g + 1) 52 2 (.slice d.A d.l.length d.c) d.l.length (linkCells d.l)
  own : W.ownsRow (g + 1) 9 1 vo O.length (O.map Str)
  oth : W.ownsRow (g + 1) 9 1 vr R.length (R.map Str)
  dis : ∀ r, vo.ownBlock = some r → vr.ownBlock ≠ some r
section
variable {w W W' : World} {g : Nat} {X : TokA} {vm vo vr : Value} {D : List TokA} {O R : List (List UInt8)}
theorem VhSt.up (h : VhSt w W g X vm D vo O vr R) (e : Ext W W') : VhSt w W' g X vm D vo O vr R :=
  ⟨h.ext.tr e, h.far, h.cur.ext e h.cur.lt, own_ext h.lnk (fun j _ hj => e.block j hj), own_ext h.more (fun j _ hj => e.block j hj), fun d hd => own_ext (h.dlk d hd) (fun j _ hj => e.block j hj), own_ext h.own (fun j _ hj => e.block j hj), own_ext h.oth (fun j _ hj => e.block j hj), h.dis⟩
/-- The token is turned. -/
theorem VhSt.tok (h : VhSt w W g X vm D vo O vr R) (Y : TokA) (hl : W.ownsRow (g + 1) 52 2 (.slice Y.A Y.l.length Y.c) Y.l.length (linkCells Y.l)) :
    VhSt w (((W.setCell ⟨g, 0, none⟩ (.string (ofL Y.id))).setCell ⟨g, 1, none⟩ (.slice Y.A Y.l.length Y.c)).setCell ⟨g, 2, none⟩ (.string (ofL Y.tag))) g Y vm D vo O vr R := by
  have s3 : ∀ {e : TypeId} {size n : Nat} {v : Value} {xs : List Value}, W.ownsRow (g + 1) e size v n xs → (((W.setCell ⟨g, 0, none⟩ (.string (ofL Y.id))).setCell ⟨g, 1, none⟩ (.slice Y.A Y.l.length Y.c)).setCell ⟨g, 2, none⟩ (.string (ofL Y.tag))).ownsRow (g + 1) e size v n xs :=
    fun h => own_set_low (own_set_low (own_set_low h (Nat.lt_succ_self _) _) (Nat.lt_succ_self _) _) (Nat.lt_succ_self _) _
  exact ⟨((h.ext.st (p := ⟨g, 0, none⟩) h.far _).st (p := ⟨g, 1, none⟩) h.far _).st (p := ⟨g, 2, none⟩) h.far _, h.far, ((h.cur.set 0 _).set 1 _).set 2 _, s3 hl, s3 h.more, fun d hd => s3 (h.dlk d hd), s3 h.own, s3 h.oth, h.dis⟩
/-- A discharge more. -/
theorem VhSt.disch (h : VhSt w W g X vm D vo O vr R) {vm' : Value} {d : TokA} (ho : W'.ownsRow (g + 1) 24 3 vm' (D.length + 1) (toksCells D ++ tokCells d)) (hg : W.grownBy W' vm.ownBlock) (hd : W.ownsRow (g + 1) 52 2 (.slice d.A d.l.length d.c) d.l.length (linkCells d.l)) : VhSt w W' g X vm' (D ++ [d]) vo O vr R :=
  ⟨h.ext.gr hg (fun k hk => by have := (h.more.lt k hk).1; have := h.far; omega), h.far, arr_kept h.cur hg (fun r e => by have := (h.more.lt r e).1; omega), own_kept_type h.lnk h.more (by decide) hg, own_eq ho (by rw [toksCells_append]; simp [toksCells]) (by rw [List.length_append]; rfl),
   fun x hx => by
    rcases List.mem_append.1 hx with hx | hx
    · exact own_kept_type (h.dlk x hx) h.more (by decide) hg
    · rw [List.mem_singleton.1 hx]; exact own_kept_type hd h.more (by decide) hg,
   own_kept_type h.own h.more (by decide) hg, own_kept_type h.oth h.more (by decide) hg, h.dis⟩
theorem VhSt.ownTo (h : VhSt w W g X vm D vo O vr R) {vo' : Value} {xs : List (List UInt8)} (ho : W'.ownsRow (g + 1) 9 1 vo' (O.length + xs.length) (O.map Str ++ xs.map Str)) (hg : W.grownBy W' vo.ownBlock) (hn : NewOr W vo vo') : VhSt w W' g X vm D vo' (O ++ xs) vr R := by
  refine ⟨h.ext.gr hg (fun k hk => by have := (h.own.lt k hk).1; have := h.far; omega), h.far, arr_kept h.cur hg (fun r e => by have := (h.own.lt r e).1; omega), own_kept_type h.lnk h.own (by decide) hg, own_kept_type h.more h.own (by decide) hg, fun x hx => own_kept_type (h.dlk x hx) h.own (by decide) hg,
    own_eq ho (by rw [List.map_append]) (by rw [List.length_append]), h.oth.kept hg ?_, fun r hr => ?_⟩
  · cases he : vr.ownBlock with
    | none => exact .inl rfl
    | some r => exact .inr fun e => h.dis r e.symm he
  · rcases hn with hn | hn
    · rw [hn] at hr; exact h.dis r hr
    · intro e
      have := hn _ hr
      have := (h.oth.lt r e).2
      omega
theorem VhSt.othTo (h : VhSt w W g X vm D vo O vr R) {vr' : Value} {xs : List (List UInt8)} (ho : W'.ownsRow (g + 1) 9 1 vr' (R.length + xs.length) (R.map Str ++ xs.map Str)) (hg : W.grownBy W' vr.ownBlock) (hn : NewOr W vr vr') : VhSt w W' g X vm D vo O vr' (R ++ xs) := by
  refine ⟨h.ext.gr hg (fun k hk => by have := (h.oth.lt k hk).1; have := h.far; omega), h.far, arr_kept h.cur hg (fun r e => by have := (h.oth.lt r e).1; omega), own_kept_type h.lnk h.oth (by decide) hg, own_kept_type h.more h.oth (by decide) hg, fun x hx => own_kept_type (h.dlk x hx) h.oth (by decide) hg,
    h.own.kept hg ?_, own_eq ho (by rw [List.map_append]) (by rw [List.length_append]), fun r hr => ?_⟩
  · cases he : vo.ownBlock with
    | none => exact .inl rfl
    | some r => exact .inr fun e => h.dis r he e.symm
  · intro e
    rcases hn with hn | hn
    · rw [hn] at e; exact h.dis r hr e
    · have := hn _ e
      have := (h.own.lt r hr).2
      omega
end
end Go.Proofs.YtejhiekikblbiaaDoor
