/-
  Package holder: a copy of links, a token with one link more. Conditions: the package's table holds the constants; texts of at most 100000 bytes. · Package holder and its reference: a token with one link more, Add, Third. Conditions: the package's table holds the constants; texts of at most 100000 bytes. · Package holder and its reference: Add, Third. Conditions: the package's table holds the constants; texts of at most 100000 bytes. · Package holder's reference: Third; Bind. Conditions: the package's table holds the constants; texts of at most 100000 bytes. · Package holder and its reference: Bind; tokens in slices. Conditions: the package's table holds the constants; texts of at most 100000 bytes. · Package holder and its reference: Bundle. Conditions: the package's table holds the constants; texts of at most 100000 bytes. · Package holder's reference: Bundle; two bundles held against each other. Conditions: texts of at most 100000 bytes. · Two bundles held against each other. No condition.
-/
import Derived.Test.YtejhiekikblbiaaGreatDoorMgI
import Derived.Lib.SliceRun
import Derived.Test.YtejhiekikblbiaaGreatDoorMgH
namespace Go.Proofs.YtejhiekikblbiaaGreatDoor
open Go.RowKit

theorem Tryz.elemLink : Elem Tryz.prog 31 72 (.agg #[.string ⟨#[]⟩, .string ⟨#[]⟩]) 2 32 :=
  ⟨Tryz.underlying31, info_parts (by kernel_rfl), rfl, by decide⟩
theorem oneCell_links : ∀ (l : List LinkL), ∀ u ∈ linkCells l, u.oneCell' = true
  | [], _, h => by cases h
  | x :: l, u, h => by
    rw [linkCells_cons] at h
    rcases List.mem_cons.1 h with rfl | h
    · rfl
    · rcases List.mem_cons.1 h with rfl | h
      · rfl
      · exact oneCell_links l u h
theorem linkCells_append (l m : List LinkL) : linkCells (l ++ m) = linkCells l ++ linkCells m := by simp [linkCells]

set_option maxRecDepth 100000 in
theorem lclone_any (v : Value) (l : List LinkL) (w : World) (h : RdLinks w w.heap.size v l) (hl : l.length ≤ 100000) : Calls Tryz.prog 60 #[v] w (RetOwn w 72 2 l.length (linkCells l)) := by
  obtain ⟨A, c, rfl, hm, hlc, hc⟩ := h
  have own0 : (w.alloc (.cells #[] 72)).ownsRow w.heap.size 72 2 (.slice (some ⟨w.heap.size, 0, none⟩) 0 0) 0 [] := World.ownsRow_lit w #[] 0 (Nat.le_refl _) (by decide) rfl
  have heq : ∀ (n : Nat) (W : World), (binOp .eql 31 (.slice A n c) (.slice none 0 0)).run Tryz.prog W = .ok (.bool A.isNone) W := fun n W => Lib.run_eql_slice_nil W _ _ _ _ _ _ _ Tryz.underlying31
  cases A with
  | none =>
    have h0 : l = [] := by
      by_cases h0 : 0 < l.length
      · obtain ⟨b, o, e, _⟩ := hc h0
        cases e
      · exact List.length_eq_zero_iff.1 (by omega)
    subst h0
    go_enter Tryz.func60, Tryz.ntmps60
    go_wp2
    go_ret
    exact ⟨_, rfl, World.ownsRow_nil _ _ _ _, Ext.rfl' _⟩
  | some ad =>
    have hcell : ∀ j u, (linkCells l)[j]? = some u → (w.alloc (.cells #[] 72)).cell? (ad.add j) = some u := fun j u hu => by
      have h0 : 0 < l.length := by
        have := (List.getElem?_eq_some_iff.1 hu).1
        rw [length_linkCells] at this
        omega
      obtain ⟨b, o, e, hb, hcc⟩ := hc h0
      cases e
      rw [WideShapes.add_plain]
      exact ((bcell ((Ext.rfl' w).al _)).1 b _ hb).trans (hcc j u hu)
    go_enter Tryz.func60, Tryz.ntmps60
    go_wp2_with (at_builtin; refine wpl_app_at Tryz.elemLink rfl _ _ rfl own0 l.length rfl rfl hlc hcell (oneCell_links l) (by omega) (by omega) (by simp) ?_; intro v' w' own2 hg2)
    have E2 : Ext w w' := ((Ext.rfl' w).al _).own hg2 own0 (Nat.le_refl _)
    go_wp2
    go_ret
    exact ⟨_, rfl, own_eq own2 (by simp) (by omega), E2⟩

theorem full_any (id tag : List UInt8) (A : Option Addr) (c : Nat) (l : List LinkL) (w : World) : Calls Tryz.prog 57 #[tokV id (.slice A l.length c) tag] w fun e w' => e = .returned (.bool (decide (64 ≤ (l.length : Int)))) ∧ Ext w w' := by
  have A0 := Arr.new w 87 [.string (ofL id), .slice A l.length c, .string (ofL tag)]
  have q1 := A0.cell 1
  simp only [List.getElem?_cons_zero, List.getElem?_cons_succ] at q1
  unfold tokV
  go_enter Tryz.func57, Tryz.ntmps57
  go_wp2
  go_ret
  exact ⟨rfl, (Ext.rfl' w).al _⟩

theorem own_links {W : World} {base n : Nat} {v : Value} {l : List LinkL} (h : W.ownsRow base 72 2 v n (linkCells l)) (hn : n = l.length) : RdLinks W W.heap.size v l := by
  subst hn; exact Rd.own h (by decide)
theorem linkCells_one (x : LinkL) : linkCells [x] = [.string (ofL x.1), .string (ofL x.2)] := rfl

set_option maxRecDepth 100000 in
set_option maxHeartbeats 4000000 in
theorem with_any (id tag xa xb : List UInt8) (A : Option Addr) (c : Nat) (l : List LinkL) (w : World) (hT : Tab w) (hl : RdLinks w w.heap.size (.slice A l.length c) l) (hn : l.length ≤ 10000) (ht : tag.length ≤ 100000) (hx : xa.length + xb.length ≤ 200000) :
    Calls Tryz.prog 59 #[tokV id (.slice A l.length c) tag, .agg #[.string (ofL xa), .string (ofL xb)]] w fun e w' => ∃ v, e = .returned (tokV id v (nextL tag (xa, xb))) ∧ w'.ownsRow w.heap.size 72 2 v (l.length + 1) (linkCells (l ++ [(xa, xb)])) ∧ Ext w w' := by
  obtain ⟨T, hTg⟩ : ∃ T, nextL tag (xa, xb) = T := ⟨_, rfl⟩
  have cN := Kp.mk (show ∀ W, Tab W → Calls Tryz.prog 92 #[.string (ofL tag), .agg #[.string (ofL xa), .string (ofL xb)]] W fun e w' => e = .returned (.string (ofL T)) ∧ Ext W w' from fun W h => by rw [← hTg]; exact next_any tag (xa, xb) W h ht hx)
  rw [hTg]
  clear hTg
  have HL := Kp.mk hl
  clear hl
  unfold tokV
  go_enter Tryz.func59, Tryz.ntmps59
  go_upto_region 1 with fail
  obtain ⟨W0, hW0⟩ : ∃ W0 : World, W0 = ((w.alloc (.cells #[.string (ofL id), .slice A l.length c, .string (ofL tag)] 87)).alloc (.cells #[.string (ofL xa), .string (ofL xb)] 72)).alloc (.cells #[.string ⟨#[]⟩, .slice none 0 0, .string ⟨#[]⟩] 33) := ⟨_, rfl⟩
  rw [← hW0]
  have hs0 : W0.heap.size = w.heap.size + 3 := by rw [hW0]; simp
  have E0 : Ext w W0 := by rw [hW0]; exact (((Ext.rfl' w).al _).al _).al _
  have B1 : Arr W0 w.heap.size 87 [.string (ofL id), .slice A l.length c, .string (ofL tag)] := by rw [hW0]; exact ((Arr.new w _ _).alloc _).alloc _
  have B2 : Arr W0 (w.heap.size + 1) 72 [.string (ofL xa), .string (ofL xb)] := by
    have q := (Arr.new (w.alloc (.cells #[.string (ofL id), .slice A l.length c, .string (ofL tag)] 87)) 72 [.string (ofL xa), .string (ofL xb)]).alloc (.cells #[.string ⟨#[]⟩, .slice none 0 0, .string ⟨#[]⟩] 33)
    rw [World.size_alloc] at q
    rw [hW0]; exact q
  have B3 : Arr W0 (w.heap.size + 1 + 1) 33 [.string ⟨#[]⟩, .slice none 0 0, .string ⟨#[]⟩] := by
    have q := Arr.new ((w.alloc (.cells #[.string (ofL id), .slice A l.length c, .string (ofL tag)] 87)).alloc (.cells #[.string (ofL xa), .string (ofL xb)] 72)) 33 [.string ⟨#[]⟩, .slice none 0 0, .string ⟨#[]⟩]
    rw [World.size_alloc, World.size_alloc] at q
    rw [hW0]; exact q
  clear hW0
  refine wp_region_stages [9] (fun bs W => Ext w W ∧ w.heap.size + 3 ≤ W.heap.size ∧ Arr W w.heap.size 87 [.string (ofL id), .slice A l.length c, .string (ofL tag)] ∧ Arr W (w.heap.size + 1) 72 [.string (ofL xa), .string (ofL xb)] ∧ Arr W (w.heap.size + 1 + 1) 33 [.string ⟨#[]⟩, .slice none 0 0, .string ⟨#[]⟩]) (fun bs i v W => match i with
    | 0 => v = .pointer (some ⟨w.heap.size, 0, none⟩)
    | 1 => v = .pointer (some ⟨w.heap.size, 0, none⟩)
    | 2 => v = .string (ofL id)
    | 3 => v = .pointer (some ⟨w.heap.size, 0, none⟩)
    | 4 => v = .pointer (some ⟨w.heap.size, 1, none⟩)
    | 5 => v = .slice A l.length c
    | 6 => bs[0]? = some false → W.ownsRow (w.heap.size + 3) 72 2 v l.length (linkCells l)
    | 7 => v = .agg #[.string (ofL xa), .string (ofL xb)]
    | 8 => ∃ b, v = .slice (some ⟨b, 0, none⟩) 1 1 ∧ (bs[0]? = some false → W.cell? ⟨b, 0, none⟩ = some (.string (ofL xa)) ∧ W.cell? ⟨b, 1, none⟩ = some (.string (ofL xb)))
    | 9 => bs[0]? = some true ∧ W.ownsRow (w.heap.size + 3) 72 2 v (l.length + 1) (linkCells (l ++ [(xa, xb)]))
    | 10 => v = .pointer (some ⟨w.heap.size, 0, none⟩)
    | 11 => v = .pointer (some ⟨w.heap.size, 2, none⟩)
    | 12 => v = .string (ofL tag)
    | 13 => v = .agg #[.string (ofL xa), .string (ofL xb)]
    | 14 => v = .string (ofL T)
    | _ => True) 15 (cs_inj (by decide)) (by decide) (by kernel_rfl) (by kernel_rfl) (by kernel_rfl) (by decide) (by kernel_rfl) (by kernel_rfl) (by kernel_rfl) (⟨E0.dr, by show w.heap.size + 3 ≤ W0.heap.size; omega, B1, B2, B3⟩) (fun bs W1 W2 ⟨a, b, p, q, r⟩ e => ⟨a.tr e, by have := e.size; omega, p.ext e p.lt, q.ext e q.lt, r.ext e r.lt⟩) ?_ ?_ ?_
  · intro bs i v W1 W2 e1 e2 h
    match i, h with
    | 0, h => exact h
    | 1, h => exact h
    | 2, h => exact h
    | 3, h => exact h
    | 4, h => exact h
    | 5, h => exact h
    | 6, h => exact fun hb => own_ext (h hb) (fun j _ hj => e2.block j hj)
    | 7, h => exact h
    | 8, ⟨b, h1, h2⟩ => exact ⟨b, h1, fun hb => ⟨((bcell e2).1 b 0 (World.block_lt_of_cell? _ _ (h2 hb).1)).trans (h2 hb).1, ((bcell e2).1 b 1 (World.block_lt_of_cell? _ _ (h2 hb).2)).trans (h2 hb).2⟩⟩
    | 9, h => exact ⟨h.1, own_ext h.2 (fun j _ hj => e2.block j hj)⟩
    | 10, h => exact h
    | 11, h => exact h
    | 12, h => exact h
    | 13, h => exact h
    | 14, h => exact h
    | (i + 15), h => exact h
  · refine localsT_ord (by decide) (fun bs u W hbs hW hno hd => leaves_val rfl (v := .pointer (some ⟨w.heap.size, 0, none⟩)) (by go_simp) rfl) ?_
    refine localsT_ord (by decide) (fun bs u W hbs hW hno hd => ?_) ?_
    · have h0 : u 0 = _ := hd 0 (by kernel_rfl)
      exact leaves_val rfl (v := .pointer (some ⟨w.heap.size, 0, none⟩)) (by go_simp) rfl
    refine localsT_ord (by decide) (fun bs u W hbs hW hno hd => ?_) ?_
    · have h1 : u 1 = _ := hd 1 (by kernel_rfl)
      have q0 := hW.2.2.1.cell 0
      simp only [List.getElem?_cons_zero] at q0
      exact leaves_val rfl (v := .string (ofL id)) (by go_simp) rfl
    refine localsT_ord (by decide) (fun bs u W hbs hW hno hd => leaves_val rfl (v := .pointer (some ⟨w.heap.size, 0, none⟩)) (by go_simp) rfl) ?_
    refine localsT_ord (by decide) (fun bs u W hbs hW hno hd => ?_) ?_
    · have h3 : u 3 = _ := hd 3 (by kernel_rfl)
      exact leaves_val rfl (v := .pointer (some ⟨w.heap.size, 1, none⟩)) (by go_simp) rfl
    refine localsT_ord (by decide) (fun bs u W hbs hW hno hd => ?_) ?_
    · have h4 : u 4 = _ := hd 4 (by kernel_rfl)
      have q1 := hW.2.2.1.cell 1
      simp only [List.getElem?_cons_zero, List.getElem?_cons_succ] at q1
      exact leaves_val rfl (v := .slice A l.length c) (by go_simp) rfl
    refine localsT_ord (by decide) (fun bs u W hbs hW hno hd => ?_) ?_
    · have h5 : u 5 = _ := hd 5 (by kernel_rfl)
      exact leaves_call rfl (f := 60) (args := #[.slice A l.length c]) (by go_simp) ((lclone_any _ l W (rd_at HL.out hW.1) (by omega)).mono (fun e W9 ⟨v9, h1, h2, h3⟩ => ⟨v9, h1, h3, fun _ => own_more h2 hW.2.1⟩))
    refine localsT_ord (by decide) (fun bs u W hbs hW hno hd => ?_) ?_
    · have q0 := hW.2.2.2.1.cell 0; have q1 := hW.2.2.2.1.cell 1
      simp only [List.getElem?_cons_zero, List.getElem?_cons_succ] at q0 q1
      exact leaves_val rfl (v := .agg #[.string (ofL xa), .string (ofL xb)]) (by go_simp) rfl
    refine localsT_ord (by decide) (fun bs u W hbs hW hno hd => ?_) ?_
    · have h7 : u 7 = _ := hd 7 (by kernel_rfl)
      exact leaves_new rfl (v := .slice (some ⟨W.heap.size, 0, none⟩) 1 1) (w' := W.alloc (.cells #[.string (ofL xa), .string (ofL xb)] 72)) (by go_simp) ((Ext.rfl' W).al _) ⟨_, rfl, fun _ => ⟨by simp [go_sem], by simp [go_sem]⟩⟩
    refine localsT_turn 0 rfl (fun q hq => cs_inj (cs := [9]) (by decide) 0 q _ rfl hq) (fun bs u W hbs hb0 hW hd hcs => ?_) ?_
    · have h6 := hd 6 (by kernel_rfl)
      have h8 := hd 8 (by kernel_rfl)
      have hset : (bs.set 0 true)[0]? = some true := List.getElem?_set_self (by rw [hbs]; decide)
      obtain ⟨b8, e8, hc8⟩ := h8
      obtain ⟨hca, hcb⟩ := hc8 hb0
      have own6 := h6 hb0
      refine ⟨rfl, fun K Q hK => wp_app (ad := ⟨b8, 0, none⟩) (c := 1) (news := linkCells [(xa, xb)]) Tryz.elemLink _ _ rfl own6 1 (by go_simp) (by go_simp) rfl ?_ (oneCell_links _) (by omega) (by omega) hW.2.1 (fun v' w' own2 hg2 => hK v' w' ?_ ⟨hset, own_eq own2 (linkCells_append _ _).symm rfl⟩ ?_)⟩
      · intro j y hy
        rw [WideShapes.add_plain]
        match j, hy with
        | 0, hy => obtain rfl : Value.string (ofL xa) = y := by simpa [linkCells] using hy
                   exact hca
        | 1, hy => obtain rfl : Value.string (ofL xb) = y := by simpa [linkCells] using hy
                   exact hcb
        | (j + 2), hy => simp [linkCells] at hy
      · exact ⟨hW.1.own hg2 own6 (by omega), by have := hg2.size; have := hW.2.1; omega, arr_kept hW.2.2.1 hg2 (fun r e => by have := (own6.lt r e).1; omega), arr_kept hW.2.2.2.1 hg2 (fun r e => by have := (own6.lt r e).1; omega), arr_kept hW.2.2.2.2 hg2 (fun r e => by have := (own6.lt r e).1; omega)⟩
      · intro k h
        match k, h with
        | 0, h => exact h
        | 1, h => exact h
        | 2, h => exact h
        | 3, h => exact h
        | 4, h => exact h
        | 5, h => exact h
        | 6, h => exact fun hb => by rw [hset] at hb; cases hb
        | 7, h => exact h
        | 8, ⟨b, h1, _⟩ => exact ⟨b, h1, fun hb => by rw [hset] at hb; cases hb⟩
        | 9, h => rw [hb0] at h; cases h.1
        | 10, h => exact h
        | 11, h => exact h
        | 12, h => exact h
        | 13, h => exact h
        | 14, h => exact h
        | (k + 15), h => exact h
    refine localsT_ord (by decide) (fun bs u W hbs hW hno hd => leaves_val rfl (v := .pointer (some ⟨w.heap.size, 0, none⟩)) (by go_simp) rfl) ?_
    refine localsT_ord (by decide) (fun bs u W hbs hW hno hd => ?_) ?_
    · have h10 : u 10 = _ := hd 10 (by kernel_rfl)
      exact leaves_val rfl (v := .pointer (some ⟨w.heap.size, 2, none⟩)) (by go_simp) rfl
    refine localsT_ord (by decide) (fun bs u W hbs hW hno hd => ?_) ?_
    · have h11 : u 11 = _ := hd 11 (by kernel_rfl)
      have q2 := hW.2.2.1.cell 2
      simp only [List.getElem?_cons_zero, List.getElem?_cons_succ] at q2
      exact leaves_val rfl (v := .string (ofL tag)) (by go_simp) rfl
    refine localsT_ord (by decide) (fun bs u W hbs hW hno hd => ?_) ?_
    · have q0 := hW.2.2.2.1.cell 0; have q1 := hW.2.2.2.1.cell 1
      simp only [List.getElem?_cons_zero, List.getElem?_cons_succ] at q0 q1
      exact leaves_val rfl (v := .agg #[.string (ofL xa), .string (ofL xb)]) (by go_simp) rfl
    refine localsT_ord (by decide) (fun bs u W hbs hW hno hd => ?_) localsT_nil
    · have h12 : u 12 = _ := hd 12 (by kernel_rfl)
      have h13 : u 13 = _ := hd 13 (by kernel_rfl)
      exact leaves_call rfl (f := 92) (args := #[.string (ofL tag), .agg #[.string (ofL xa), .string (ofL xb)]]) (by go_simp) ((cN.out W (hT.ext hW.1)).mono (by rintro e9 W9 ⟨rfl, h9⟩; exact ⟨_, rfl, h9, rfl⟩))
  · intro u W hW hV
    have h2 : u 2 = _ := hV 2 (by decide)
    obtain ⟨_, h9⟩ := hV 9 (by decide)
    have h14 : u 14 = _ := hV 14 (by decide)
    clear hV
    obtain ⟨E9, _, _, _, hA⟩ := hW
    obtain ⟨g9, cap9, e9⟩ := ownsRow_succ h9
    rw [e9] at h9
    have q0 := hA.cell 0; have q1 := hA.cell 1; have q2 := hA.cell 2
    have z0 := hA.frozen 0; have z1 := hA.frozen 1; have z2 := hA.frozen 2
    simp only [List.getElem?_cons_zero, List.getElem?_cons_succ] at q0 q1 q2
    go_simp
    go_wp2
    obtain ⟨W', hW'⟩ : ∃ W' : World, W' = ((W.setCell ⟨w.heap.size + 1 + 1, 0, none⟩ (.string (ofL id))).setCell ⟨w.heap.size + 1 + 1, 1, none⟩ (.slice (some ⟨g9, 0, none⟩) (l.length + 1) cap9)).setCell ⟨w.heap.size + 1 + 1, 2, none⟩ (.string (ofL T)) := ⟨_, rfl⟩
    rw [← hW']
    have hA' : Arr W' (w.heap.size + 1 + 1) 33 [.string (ofL id), .slice (some ⟨g9, 0, none⟩) (l.length + 1) cap9, .string (ofL T)] := by rw [hW']; exact ((hA.set 0 _).set 1 _).set 2 _
    have E' : Ext w W' := by rw [hW']; exact ((E9.st (by show w.heap.size ≤ w.heap.size + 1 + 1; omega) _).st (by show w.heap.size ≤ w.heap.size + 1 + 1; omega) _).st (by show w.heap.size ≤ w.heap.size + 1 + 1; omega) _
    have own' : W'.ownsRow (w.heap.size + 3) 72 2 (.slice (some ⟨g9, 0, none⟩) (l.length + 1) cap9) (l.length + 1) (linkCells (l ++ [(xa, xb)])) := own_ext h9 (fun j hj _ => by rw [hW']; exact heap_set3 W _ _ _ _ j (by omega))
    exact bodyPost_ret (v := .agg #[.string (ofL id), .slice (some ⟨g9, 0, none⟩) (l.length + 1) cap9, .string (ofL T)]) (results_cell_row rfl _ _ (w.heap.size + 1 + 1) _ _ _ _ rfl hA' Tryz.underlying33 rfl (by kernel_rfl)) rfl ⟨_, rfl, own_more own' (by omega), E'⟩
end Go.Proofs.YtejhiekikblbiaaGreatDoor

namespace Go.Proofs.YtejhiekikblbiaaGreatDoor
open Go.RowKit

/-- A token of the call's own is returned, and an error's number. -/
def TokNew (w : World) (r : TokL × Nat) (e : Ending) (w' : World) : Prop := ∃ v, e = .returned (.tuple #[tokV r.1.id v r.1.tag, .int .i64 r.2]) ∧ w'.ownsRow w.heap.size 72 2 v r.1.links.length (linkCells r.1.links) ∧ Ext w w'
/-- A token of the call's own is returned. -/
def TokOne (w : World) (r : TokL) (e : Ending) (w' : World) : Prop := ∃ v, e = .returned (tokV r.id v r.tag) ∧ w'.ownsRow w.heap.size 72 2 v r.links.length (linkCells r.links) ∧ Ext w w'
theorem results_cell_slot {P : Program} {fn : Func} {p q : Tmp} {ty : TypeId} (h : fn.results = #[.cell p ty, .tmp q]) (tmps : Array Value) (w : World) (g : Nat) (t : TypeId) (cs : Array Value) (fr : Nat × Nat) (d : TypeDesc) (x : Value)
    (hp : tmps.getD p undef = .pointer (some ⟨g, 0, none⟩)) (hq : tmps.getD q undef = x) (hg : w.heap[g]? = some (.cells cs t fr))
    (hu : P.underlying ty = some d) (hd : (match d with | .struct _ | .array _ _ => true | _ => false) = true) (hi : (P.info? ty).map (·.size) = some cs.size) :
    (results fn tmps).run P w = .ok (.tuple #[.agg cs, x]) w := by
  have hp' : tmps[p]?.getD undef = .pointer (some ⟨g, 0, none⟩) := by simpa using hp
  have hq' : tmps[q]?.getD undef = x := by simpa using hq
  simp [results, h, hp', hq', asAddr, run_loadVar_row w g t ty cs fr d hg hu hd hi]
/-- A token is stored into the result and returned, with an error's number. -/
theorem ret_tok {fn : Func} {p q : Tmp} {tmps : Array Value} {w W : World} {g base : Nat} {a b c v : Value} {r : TokL × Nat} (h : fn.results = #[.cell p 33, .tmp q]) (hp : tmps.getD p undef = .pointer (some ⟨g, 0, none⟩)) (hq : tmps.getD q undef = .int .i64 r.2)
    (hA : Arr W g 33 [a, b, c]) (hg : w.heap.size ≤ g) (E : Ext w W) (hb : g < base) (own : W.ownsRow base 72 2 v r.1.links.length (linkCells r.1.links)) :
    bodyPost Tryz.prog fn (TokNew w r) .ret { tmps := tmps, defers := [] } (((W.setCell ⟨g, 0, none⟩ (.string (ofL r.1.id))).setCell ⟨g, 1, none⟩ v).setCell ⟨g, 2, none⟩ (.string (ofL r.1.tag))) := by
  have hA' : Arr (((W.setCell ⟨g, 0, none⟩ (.string (ofL r.1.id))).setCell ⟨g, 1, none⟩ v).setCell ⟨g, 2, none⟩ (.string (ofL r.1.tag))) g 33 [.string (ofL r.1.id), v, .string (ofL r.1.tag)] := ((hA.set 0 _).set 1 _).set 2 _
  exact bodyPost_ret (v := .tuple #[.agg #[.string (ofL r.1.id), v, .string (ofL r.1.tag)], .int .i64 r.2]) (results_cell_slot h _ _ g _ _ _ _ _ hp hq hA' Tryz.underlying33 rfl (by kernel_rfl)) rfl
    ⟨v, rfl, own_more (own_ext own (fun j hj _ => heap_set3 W _ _ _ _ j (by omega))) (by omega), ((E.st (p := ⟨g, 0, none⟩) hg _).st (p := ⟨g, 1, none⟩) hg _).st (p := ⟨g, 2, none⟩) hg _⟩
/-- The zero token stands in the result. -/
theorem ret_tok0 {fn : Func} {p q : Tmp} {tmps : Array Value} {w W : World} {g : Nat} {n : Nat} (h : fn.results = #[.cell p 33, .tmp q]) (hp : tmps.getD p undef = .pointer (some ⟨g, 0, none⟩)) (hq : tmps.getD q undef = .int .i64 n)
    (hA : Arr W g 33 [.string ⟨#[]⟩, .slice none 0 0, .string ⟨#[]⟩]) (E : Ext w W) : bodyPost Tryz.prog fn (TokNew w (tok0, n)) .ret { tmps := tmps, defers := [] } W :=
  bodyPost_ret (v := .tuple #[.agg #[.string ⟨#[]⟩, .slice none 0 0, .string ⟨#[]⟩], .int .i64 n]) (results_cell_slot h _ _ g _ _ _ _ _ hp hq hA Tryz.underlying33 rfl (by kernel_rfl)) rfl ⟨_, rfl, World.ownsRow_nil _ _ _ _, E⟩
/-- .. with none. -/
theorem ret_tok1 {fn : Func} {p : Tmp} {tmps : Array Value} {w W : World} {g base : Nat} {a b c v : Value} {r : TokL} (h : fn.results = #[.cell p 33]) (hp : tmps.getD p undef = .pointer (some ⟨g, 0, none⟩))
    (hA : Arr W g 33 [a, b, c]) (hg : w.heap.size ≤ g) (E : Ext w W) (hb : g < base) (own : W.ownsRow base 72 2 v r.links.length (linkCells r.links)) :
    bodyPost Tryz.prog fn (TokOne w r) .ret { tmps := tmps, defers := [] } (((W.setCell ⟨g, 0, none⟩ (.string (ofL r.id))).setCell ⟨g, 1, none⟩ v).setCell ⟨g, 2, none⟩ (.string (ofL r.tag))) := by
  have hA' : Arr (((W.setCell ⟨g, 0, none⟩ (.string (ofL r.id))).setCell ⟨g, 1, none⟩ v).setCell ⟨g, 2, none⟩ (.string (ofL r.tag))) g 33 [.string (ofL r.id), v, .string (ofL r.tag)] := ((hA.set 0 _).set 1 _).set 2 _
  exact bodyPost_ret (v := .agg #[.string (ofL r.id), v, .string (ofL r.tag)]) (results_cell_row h _ _ g _ _ _ _ hp hA' Tryz.underlying33 rfl (by kernel_rfl)) rfl
    ⟨v, rfl, own_more (own_ext own (fun j hj _ => heap_set3 W _ _ _ _ j (by omega))) (by omega), ((E.st (p := ⟨g, 0, none⟩) hg _).st (p := ⟨g, 1, none⟩) hg _).st (p := ⟨g, 2, none⟩) hg _⟩

set_option maxRecDepth 100000 in
set_option maxHeartbeats 4000000 in
theorem rwlink_any (id tag xa xb : List UInt8) (A : Option Addr) (c : Nat) (l : List LinkL) (w : World) (hl : RdLinks w w.heap.size (.slice A l.length c) l) (hn : l.length ≤ 10000) (ht : tag.length ≤ 100000) (hx : xa.length + xb.length ≤ 200000) :
    Calls Tryz.prog 84 #[tokV id (.slice A l.length c) tag, .agg #[.string (ofL xa), .string (ofL xb)]] w (TokOne w ⟨id, l ++ [(xa, xb)], nextL tag (xa, xb)⟩) := by
  obtain ⟨T, hTg⟩ : ∃ T, nextL tag (xa, xb) = T := ⟨_, rfl⟩
  obtain ⟨P, hP⟩ : ∃ P, nextParts (xa, xb) = P := ⟨_, rfl⟩
  have hPl : (frameL P).length ≤ 400000 := by have := len_next (xa, xb); rw [← hP]; simp only at this; omega
  have cN := Kp.mk (show ∀ W, Calls Tryz.prog 89 #[.agg #[.string (ofL xa), .string (ofL xb)]] W fun e w' => ∃ v, e = .returned v ∧ Ext W w' ∧ w'.ownsRow W.heap.size 9 1 v P.length (P.map Str) from fun W => by rw [← hP]; exact (rnextParts_any (xa, xb) W).mono fun _ _ ⟨v, h1, h2, h3⟩ => ⟨v, h1, h3, h2⟩)
  have cP := Kp.mk (show ∀ W v, Rd W W.heap.size 1 v P.length (P.map Str) → Calls Tryz.prog 43 #[.string (ofL tag), v] W fun e w' => e = .returned (.string (ofL T)) ∧ Ext W w' from fun W v h => by
    have h5 := rparts_any tag P v W (by omega) h (by omega)
    have h6 : hmacL tag (frameL P) = T := by rw [← hP]; exact hTg
    rw [h6] at h5
    exact h5)
  rw [hTg]
  clear hTg hP hPl
  have HL := Kp.mk hl
  clear hl
  unfold tokV
  go_enter Tryz.func84, Tryz.ntmps84
  go_upto_region 1 with fail
  obtain ⟨W0, hW0⟩ : ∃ W0 : World, W0 = ((w.alloc (.cells #[.string (ofL id), .slice A l.length c, .string (ofL tag)] 33)).alloc (.cells #[.string (ofL xa), .string (ofL xb)] 72)).alloc (.cells #[.string ⟨#[]⟩, .slice none 0 0, .string ⟨#[]⟩] 33) := ⟨_, rfl⟩
  rw [← hW0]
  have hs0 : W0.heap.size = w.heap.size + 3 := by rw [hW0]; simp
  have E0 : Ext w W0 := by rw [hW0]; exact (((Ext.rfl' w).al _).al _).al _
  have B1 : Arr W0 w.heap.size 33 [.string (ofL id), .slice A l.length c, .string (ofL tag)] := by rw [hW0]; exact ((Arr.new w _ _).alloc _).alloc _
  have B2 : Arr W0 (w.heap.size + 1) 72 [.string (ofL xa), .string (ofL xb)] := by
    have q := (Arr.new (w.alloc (.cells #[.string (ofL id), .slice A l.length c, .string (ofL tag)] 33)) 72 [.string (ofL xa), .string (ofL xb)]).alloc (.cells #[.string ⟨#[]⟩, .slice none 0 0, .string ⟨#[]⟩] 33)
    rw [World.size_alloc] at q
    rw [hW0]; exact q
  have B3 : Arr W0 (w.heap.size + 1 + 1) 33 [.string ⟨#[]⟩, .slice none 0 0, .string ⟨#[]⟩] := by
    have q := Arr.new ((w.alloc (.cells #[.string (ofL id), .slice A l.length c, .string (ofL tag)] 33)).alloc (.cells #[.string (ofL xa), .string (ofL xb)] 72)) 33 [.string ⟨#[]⟩, .slice none 0 0, .string ⟨#[]⟩]
    rw [World.size_alloc, World.size_alloc] at q
    rw [hW0]; exact q
  clear hW0
  refine wp_region_stages [5, 8] (fun bs W => Ext w W ∧ w.heap.size + 3 ≤ W.heap.size ∧ Arr W w.heap.size 33 [.string (ofL id), .slice A l.length c, .string (ofL tag)] ∧ Arr W (w.heap.size + 1) 72 [.string (ofL xa), .string (ofL xb)] ∧ Arr W (w.heap.size + 1 + 1) 33 [.string ⟨#[]⟩, .slice none 0 0, .string ⟨#[]⟩]) (fun bs i v W => match i with
    | 0 => v = .pointer (some ⟨w.heap.size, 0, none⟩)
    | 1 => v = .string (ofL id)
    | 2 => ∃ b, v = .slice (some ⟨b, 0, none⟩) 0 0 ∧ (bs[0]? = some false → Arr W b 72 [] ∧ w.heap.size + 3 ≤ b)
    | 3 => v = .pointer (some ⟨w.heap.size, 1, none⟩)
    | 4 => v = .slice A l.length c
    | 5 => bs[0]? = some true ∧ (bs[1]? = some false → W.ownsRow (w.heap.size + 3) 72 2 v l.length (linkCells l))
    | 6 => v = .agg #[.string (ofL xa), .string (ofL xb)]
    | 7 => ∃ b, v = .slice (some ⟨b, 0, none⟩) 1 1 ∧ (bs[1]? = some false → Arr W b 72 [.string (ofL xa), .string (ofL xb)])
    | 8 => (bs[0]? = some true ∧ bs[1]? = some true) ∧ W.ownsRow (w.heap.size + 3) 72 2 v (l.length + 1) (linkCells (l ++ [(xa, xb)]))
    | 9 => v = .pointer (some ⟨w.heap.size, 2, none⟩)
    | 10 => v = .string (ofL tag)
    | 11 => v = .agg #[.string (ofL xa), .string (ofL xb)]
    | 12 => W.ownsRow w.heap.size 9 1 v P.length (P.map Str)
    | 13 => v = .string (ofL T)
    | _ => True) 14 (cs_inj (by decide)) (by decide) (by kernel_rfl) (by kernel_rfl) (by kernel_rfl) (by decide) (by kernel_rfl) (by kernel_rfl) (by kernel_rfl) (⟨E0.dr, by show w.heap.size + 3 ≤ W0.heap.size; omega, B1, B2, B3⟩) (fun bs W1 W2 ⟨a, b, p, q, r⟩ e => ⟨a.tr e, by have := e.size; omega, p.ext e p.lt, q.ext e q.lt, r.ext e r.lt⟩) ?_ ?_ ?_
  · intro bs i v W1 W2 e1 e2 h
    match i, h with
    | 0, h => exact h
    | 1, h => exact h
    | 2, ⟨b, h1, h2⟩ => exact ⟨b, h1, fun hb => ⟨(h2 hb).1.ext e2 (h2 hb).1.lt, (h2 hb).2⟩⟩
    | 3, h => exact h
    | 4, h => exact h
    | 5, h => exact ⟨h.1, fun hb => own_ext (h.2 hb) (fun j _ hj => e2.block j hj)⟩
    | 6, h => exact h
    | 7, ⟨b, h1, h2⟩ => exact ⟨b, h1, fun hb => (h2 hb).ext e2 (h2 hb).lt⟩
    | 8, h => exact ⟨h.1, own_ext h.2 (fun j _ hj => e2.block j hj)⟩
    | 9, h => exact h
    | 10, h => exact h
    | 11, h => exact h
    | 12, h => exact own_ext h (fun j _ hj => e2.block j hj)
    | 13, h => exact h
    | (i + 14), h => exact h
  · refine localsT_ord (by decide) (fun bs u W hbs hW hno hd => leaves_val rfl (v := .pointer (some ⟨w.heap.size, 0, none⟩)) (by go_simp) rfl) ?_
    refine localsT_ord (by decide) (fun bs u W hbs hW hno hd => ?_) ?_
    · have h0 : u 0 = _ := hd 0 (by kernel_rfl)
      have q0 := hW.2.2.1.cell 0
      simp only [List.getElem?_cons_zero] at q0
      exact leaves_val rfl (v := .string (ofL id)) (by go_simp) rfl
    refine localsT_ord (by decide) (fun bs u W hbs hW hno hd => ?_) ?_
    · exact leaves_new rfl (v := .slice (some ⟨W.heap.size, 0, none⟩) 0 0) (w' := W.alloc (.cells #[] 72)) (by go_simp) ((Ext.rfl' W).al _) ⟨_, rfl, fun _ => ⟨Arr.new W _ [], hW.2.1⟩⟩
    refine localsT_ord (by decide) (fun bs u W hbs hW hno hd => leaves_val rfl (v := .pointer (some ⟨w.heap.size, 1, none⟩)) (by go_simp) rfl) ?_
    refine localsT_ord (by decide) (fun bs u W hbs hW hno hd => ?_) ?_
    · have h3 : u 3 = _ := hd 3 (by kernel_rfl)
      have q1 := hW.2.2.1.cell 1
      simp only [List.getElem?_cons_zero, List.getElem?_cons_succ] at q1
      exact leaves_val rfl (v := .slice A l.length c) (by go_simp) rfl
    refine localsT_turn 0 rfl (fun q hq => cs_inj (cs := [5, 8]) (by decide) 0 q _ rfl hq) (fun bs u W hbs hb0 hW hd hcs => ?_) ?_
    · have h2 := hd 2 (by kernel_rfl)
      have h4 : u 4 = _ := hd 4 (by kernel_rfl)
      have hset : (bs.set 0 true)[0]? = some true := List.getElem?_set_self (by rw [hbs]; decide)
      have hset9 : (bs.set 0 true)[1]? = bs[1]? := List.getElem?_set_ne (by decide)
      obtain ⟨g2, e2, hA2⟩ := h2
      obtain ⟨hA2, hge2⟩ := hA2 hb0
      have own2 : W.ownsRow (w.heap.size + 3) 72 2 (u 2) 0 [] := by rw [e2]; exact ⟨rfl, .inr ⟨g2, 0, #[], rfl, hge2, hA2, Nat.le_refl _, by decide, rfl, rfl⟩⟩
      have hrl := rd_at HL.out hW.1
      refine ⟨rfl, fun K Q hK => wp_app_rd Tryz.elemLink _ _ rfl own2 (by go_simp) (by go_simp) hrl (oneCell_links _) (by omega) (by omega) hW.2.1 (fun v' w' own3 hg3 => hK v' w' ?_ ⟨hset, fun _ => own_eq own3 (List.nil_append _) (by omega)⟩ ?_)⟩
      · exact ⟨hW.1.own hg3 own2 (by omega), by have := hg3.size; have := hW.2.1; omega, arr_kept hW.2.2.1 hg3 (fun r e => by have := (own2.lt r e).1; omega), arr_kept hW.2.2.2.1 hg3 (fun r e => by have := (own2.lt r e).1; omega), arr_kept hW.2.2.2.2 hg3 (fun r e => by have := (own2.lt r e).1; omega)⟩
      · intro k h
        match k, h with
        | 0, h => exact h
        | 1, h => exact h
        | 2, ⟨b, h1, _⟩ => exact ⟨b, h1, fun hb => by rw [hset] at hb; cases hb⟩
        | 3, h => exact h
        | 4, h => exact h
        | 5, h => rw [hb0] at h; cases h.1
        | 6, h => exact h
        | 7, ⟨b, h1, h2⟩ => exact ⟨b, h1, fun hb => arr_kept (h2 (hset9 ▸ hb)) hg3 (fun r e => by have hx := (h2 (hset9 ▸ hb)).cell 0; have hy := hA2.cell 0; rw [e2] at e; intro hr; have e : some g2 = some r := e; cases e; rw [hr] at hy; rw [hx] at hy; cases hy)⟩
        | 8, h => rw [hb0] at h; cases h.1.1
        | 9, h => exact h
        | 10, h => exact h
        | 11, h => exact h
        | 12, h => exact own_kept_type h own2 (by decide) hg3
        | 13, h => exact h
        | (k + 14), h => exact h
    refine localsT_ord (by decide) (fun bs u W hbs hW hno hd => ?_) ?_
    · have q0 := hW.2.2.2.1.cell 0; have q1 := hW.2.2.2.1.cell 1
      simp only [List.getElem?_cons_zero, List.getElem?_cons_succ] at q0 q1
      exact leaves_val rfl (v := .agg #[.string (ofL xa), .string (ofL xb)]) (by go_simp) rfl
    refine localsT_ord (by decide) (fun bs u W hbs hW hno hd => ?_) ?_
    · have h6 : u 6 = _ := hd 6 (by kernel_rfl)
      exact leaves_new rfl (v := .slice (some ⟨W.heap.size, 0, none⟩) 1 1) (w' := W.alloc (.cells #[.string (ofL xa), .string (ofL xb)] 72)) (by go_simp) ((Ext.rfl' W).al _) ⟨_, rfl, fun _ => Arr.new W _ [.string (ofL xa), .string (ofL xb)]⟩
    refine localsT_turn 1 rfl (fun q hq => cs_inj (cs := [5, 8]) (by decide) 1 q _ rfl hq) (fun bs u W hbs hb0 hW hd hcs => ?_) ?_
    · have h5 := hd 5 (by kernel_rfl)
      have h7 := hd 7 (by kernel_rfl)
      have hset1 : (bs.set 1 true)[1]? = some true := List.getElem?_set_self (by rw [hbs]; decide)
      have hset0 : (bs.set 1 true)[0]? = bs[0]? := List.getElem?_set_ne (by decide)
      obtain ⟨h00, own5⟩ := h5
      obtain ⟨b8, e8, hc8⟩ := h7
      have hA8 := hc8 hb0
      have hca := hA8.cell 0; have hcb := hA8.cell 1
      have own6 := own5 hb0
      refine ⟨rfl, fun K Q hK => wp_app (ad := ⟨b8, 0, none⟩) (c := 1) (news := linkCells [(xa, xb)]) Tryz.elemLink _ _ rfl own6 1 (by go_simp) (by go_simp) rfl ?_ (oneCell_links _) (by omega) (by omega) hW.2.1 (fun v' w' own2 hg2 => hK v' w' ?_ ⟨⟨hset0.trans h00, hset1⟩, own_eq own2 (linkCells_append _ _).symm rfl⟩ ?_)⟩
      · intro j y hy
        rw [WideShapes.add_plain]
        match j, hy with
        | 0, hy => obtain rfl : Value.string (ofL xa) = y := by simpa [linkCells] using hy
                   exact hca
        | 1, hy => obtain rfl : Value.string (ofL xb) = y := by simpa [linkCells] using hy
                   exact hcb
        | (j + 2), hy => simp [linkCells] at hy
      · exact ⟨hW.1.own hg2 own6 (by omega), by have := hg2.size; have := hW.2.1; omega, arr_kept hW.2.2.1 hg2 (fun r e => by have := (own6.lt r e).1; omega), arr_kept hW.2.2.2.1 hg2 (fun r e => by have := (own6.lt r e).1; omega), arr_kept hW.2.2.2.2 hg2 (fun r e => by have := (own6.lt r e).1; omega)⟩
      · intro k h
        match k, h with
        | 0, h => exact h
        | 1, h => exact h
        | 2, ⟨b, h1, _⟩ => exact ⟨b, h1, fun hb => by rw [hset0, h00] at hb; cases hb⟩
        | 3, h => exact h
        | 4, h => exact h
        | 5, h => exact ⟨hset0.trans h.1, fun hb => by rw [hset1] at hb; cases hb⟩
        | 6, h => exact h
        | 7, ⟨b, h1, _⟩ => exact ⟨b, h1, fun hb => by rw [hset1] at hb; cases hb⟩
        | 8, h => rw [hb0] at h; cases h.1.2
        | 9, h => exact h
        | 10, h => exact h
        | 11, h => exact h
        | 12, h => exact own_kept_type h own6 (by decide) hg2
        | 13, h => exact h
        | (k + 14), h => exact h
    refine localsT_ord (by decide) (fun bs u W hbs hW hno hd => leaves_val rfl (v := .pointer (some ⟨w.heap.size, 2, none⟩)) (by go_simp) rfl) ?_
    refine localsT_ord (by decide) (fun bs u W hbs hW hno hd => ?_) ?_
    · have h9 : u 9 = _ := hd 9 (by kernel_rfl)
      have q2 := hW.2.2.1.cell 2
      simp only [List.getElem?_cons_zero, List.getElem?_cons_succ] at q2
      exact leaves_val rfl (v := .string (ofL tag)) (by go_simp) rfl
    refine localsT_ord (by decide) (fun bs u W hbs hW hno hd => ?_) ?_
    · have q0 := hW.2.2.2.1.cell 0; have q1 := hW.2.2.2.1.cell 1
      simp only [List.getElem?_cons_zero, List.getElem?_cons_succ] at q0 q1
      exact leaves_val rfl (v := .agg #[.string (ofL xa), .string (ofL xb)]) (by go_simp) rfl
    refine localsT_ord (by decide) (fun bs u W hbs hW hno hd => ?_) ?_
    · have h11 : u 11 = _ := hd 11 (by kernel_rfl)
      exact leaves_call rfl (f := 89) (args := #[.agg #[.string (ofL xa), .string (ofL xb)]]) (by go_simp) ((cN.out W).mono (fun e9 W9 ⟨v9, h1, h2, h3⟩ => ⟨v9, h1, h2, own_more h3 hW.1.size⟩))
    refine localsT_ord (by decide) (fun bs u W hbs hW hno hd => ?_) localsT_nil
    · have h10 : u 10 = _ := hd 10 (by kernel_rfl)
      have h12 := hd 12 (by kernel_rfl)
      exact leaves_call rfl (f := 43) (args := #[.string (ofL tag), u 12]) (by go_simp) ((cP.out W _ (Rd.own h12 (by decide))).mono (by rintro e9 W9 ⟨rfl, h9⟩; exact ⟨_, rfl, h9, rfl⟩))
  · intro u W hW hV
    have h1 : u 1 = _ := hV 1 (by decide)
    obtain ⟨_, h8⟩ := hV 8 (by decide)
    have h13 : u 13 = _ := hV 13 (by decide)
    clear hV
    obtain ⟨E9, _, _, _, hA⟩ := hW
    obtain ⟨g9, cap9, e9⟩ := ownsRow_succ h8
    rw [e9] at h8
    have q0 := hA.cell 0; have q1 := hA.cell 1; have q2 := hA.cell 2
    have z0 := hA.frozen 0; have z1 := hA.frozen 1; have z2 := hA.frozen 2
    simp only [List.getElem?_cons_zero, List.getElem?_cons_succ] at q0 q1 q2
    go_simp
    go_wp2
    exact ret_tok1 rfl rfl hA (by omega) E9 (by omega) (own_eq h8 rfl (by simp))
end Go.Proofs.YtejhiekikblbiaaGreatDoor

namespace Go.Proofs.YtejhiekikblbiaaGreatDoor
open Go.RowKit

/-- A token's cells, a token's zero, a token's cells again: three new blocks. -/
theorem tok_boxes3 (w : World) (a b c : Value) (t : TypeId) : ∃ W, (((w.alloc (.cells #[a, b, c] 33)).alloc (.cells #[.string ⟨#[]⟩, .slice none 0 0, .string ⟨#[]⟩] 33)).alloc (.cells #[a, b, c] t)) = W ∧ Ext w W ∧ W.heap.size = w.heap.size + 3 ∧
    Arr W w.heap.size 33 [a, b, c] ∧ Arr W (w.heap.size + 1) 33 [.string ⟨#[]⟩, .slice none 0 0, .string ⟨#[]⟩] ∧ Arr W (w.heap.size + 1 + 1) t [a, b, c] := by
  refine ⟨_, rfl, (((Ext.rfl' w).al _).al _).al _, by simp, ((Arr.new w 33 [a, b, c]).alloc _).alloc _, ?_, ?_⟩
  · have q := (Arr.new (w.alloc (.cells #[a, b, c] 33)) 33 [.string ⟨#[]⟩, .slice none 0 0, .string ⟨#[]⟩]).alloc (.cells #[a, b, c] t)
    rw [World.size_alloc] at q
    exact q
  · have q := Arr.new ((w.alloc (.cells #[a, b, c] 33)).alloc (.cells #[.string ⟨#[]⟩, .slice none 0 0, .string ⟨#[]⟩] 33)) t [a, b, c]
    rw [World.size_alloc, World.size_alloc] at q
    exact q
theorem tok_boxes2 (w : World) (a b c : Value) : ∃ W, ((w.alloc (.cells #[a, b, c] 33)).alloc (.cells #[.string ⟨#[]⟩, .slice none 0 0, .string ⟨#[]⟩] 33)) = W ∧ Ext w W ∧ W.heap.size = w.heap.size + 2 ∧
    Arr W w.heap.size 33 [a, b, c] ∧ Arr W (w.heap.size + 1) 33 [.string ⟨#[]⟩, .slice none 0 0, .string ⟨#[]⟩] := by
  refine ⟨_, rfl, ((Ext.rfl' w).al _).al _, by simp, (Arr.new w 33 [a, b, c]).alloc _, ?_⟩
  have q := Arr.new (w.alloc (.cells #[a, b, c] 33)) 33 [.string ⟨#[]⟩, .slice none 0 0, .string ⟨#[]⟩]
  rw [World.size_alloc] at q
  exact q

set_option maxRecDepth 100000 in
set_option maxHeartbeats 4000000 in
theorem hoadd_any (id tag s : List UInt8) (A : Option Addr) (c : Nat) (l : List LinkL) (w : World) (hT : Tab w) (hl : RdLinks w w.heap.size (.slice A l.length c) l) (hn : l.length ≤ 10000) (ht : tag.length ≤ 100000) (hs : s.length ≤ 100000) :
    Calls Tryz.prog 26 #[tokV id (.slice A l.length c) tag, .string (ofL s)] w (TokNew w (addL ⟨id, l, tag⟩ s)) := by
  have zs : (ofL s).size = s.length := size_ofL _
  have cF := Kp.mk (fun W => full_any id tag A c l W)
  have cN := Kp.mk (fun (W : World) (h1 : Tab W) (h2 : RdLinks W W.heap.size (.slice A l.length c) l) => with_any id tag s [] A c l W h1 h2 hn ht (by simp; omega))
  have HL := Kp.mk hl
  obtain ⟨W0, hW0, E0, hs0, B1, B2, B3⟩ := tok_boxes3 w (.string (ofL id)) (.slice A l.length c) (.string (ofL tag)) 87
  have HW := Kp.mk hW0
  clear hl hW0
  unfold tokV at *
  by_cases g1 : 64 ≤ l.length
  · have d1 : decide (64 ≤ (l.length : Int)) = true := by simp; omega
    rw [d1] at cF
    rw [addL_limit (.inl g1)]
    clear d1
    go_enter Tryz.func26, Tryz.ntmps26
    go_wp2_with fail
    rw [HW.out]
    refine (cF.out _).mono ?_
    rintro e w1 ⟨rfl, E1⟩
    have F1 := E0.tr E1
    have hA := B2.ext E1 B2.lt
    have hH := B3.ext E1 B3.lt
    have L1 := rd_at HL.out F1
    have q0 := hA.cell 0; have q1 := hA.cell 1; have q2 := hA.cell 2
    have z0 := hA.frozen 0; have z1 := hA.frozen 1; have z2 := hA.frozen 2
    have y0 := hH.cell 0; have y1 := hH.cell 1; have y2 := hH.cell 2
    simp only [List.getElem?_cons_zero, List.getElem?_cons_succ] at q0 q1 q2 y0 y1 y2
    clear B1 B2 B3 E1 E0 HW
    go_wp2
    exact ret_tok (r := (tok0, 3)) rfl rfl rfl hA (by omega) F1 (Nat.lt_succ_self _) (World.ownsRow_nil _ _ _ _)
  · have d1 : decide (64 ≤ (l.length : Int)) = false := by simp; omega
    rw [d1] at cF
    clear d1
    by_cases g2 : 2048 < s.length
    · rw [addL_limit (.inr g2)]
      go_enter Tryz.func26, Tryz.ntmps26
      go_wp2_with fail
      rw [HW.out]
      refine (cF.out _).mono ?_
      rintro e w1 ⟨rfl, E1⟩
      have F1 := E0.tr E1
      have hA := B2.ext E1 B2.lt
      have hH := B3.ext E1 B3.lt
      have L1 := rd_at HL.out F1
      have q0 := hA.cell 0; have q1 := hA.cell 1; have q2 := hA.cell 2
      have z0 := hA.frozen 0; have z1 := hA.frozen 1; have z2 := hA.frozen 2
      have y0 := hH.cell 0; have y1 := hH.cell 1; have y2 := hH.cell 2
      simp only [List.getElem?_cons_zero, List.getElem?_cons_succ] at q0 q1 q2 y0 y1 y2
      clear B1 B2 B3 E1 E0 HW
      go_wp2
      exact ret_tok (r := (tok0, 3)) rfl rfl rfl hA (by omega) F1 (Nat.lt_succ_self _) (World.ownsRow_nil _ _ _ _)
    · rw [addL_ok (by show l.length < 64; omega) (by omega)]
      go_enter Tryz.func26, Tryz.ntmps26
      go_wp2_with fail
      rw [HW.out]
      refine (cF.out _).mono ?_
      rintro e w1 ⟨rfl, E1⟩
      have F1 := E0.tr E1
      have hA := B2.ext E1 B2.lt
      have hH := B3.ext E1 B3.lt
      have L1 := rd_at HL.out F1
      have q0 := hA.cell 0; have q1 := hA.cell 1; have q2 := hA.cell 2
      have z0 := hA.frozen 0; have z1 := hA.frozen 1; have z2 := hA.frozen 2
      have y0 := hH.cell 0; have y1 := hH.cell 1; have y2 := hH.cell 2
      simp only [List.getElem?_cons_zero, List.getElem?_cons_succ] at q0 q1 q2 y0 y1 y2
      clear B1 B2 B3 E1 E0 HW
      go_wp2_with fail
      refine (cN.out _ (hT.ext F1) L1).mono ?_
      rintro e w2 ⟨v, rfl, own, E2⟩
      obtain ⟨g9, cap9, rfl⟩ := ownsRow_succ own
      have F2 := F1.tr E2
      have hA2 := hA.ext E2 hA.lt
      have hlt := hA.lt
      clear q0 q1 q2 z0 z1 z2
      have q0 := hA2.cell 0; have q1 := hA2.cell 1; have q2 := hA2.cell 2
      have z0 := hA2.frozen 0; have z1 := hA2.frozen 1; have z2 := hA2.frozen 2
      simp only [List.getElem?_cons_zero, List.getElem?_cons_succ] at q0 q1 q2
      clear hA hH y0 y1 y2 E2 F1 cF cN
      go_wp2
      exact ret_tok (r := (withL ⟨id, l, tag⟩ (s, []), 0)) rfl rfl rfl hA2 (by omega) F2 hlt (own_eq own rfl (by simp [withL]))

set_option maxRecDepth 100000 in
set_option maxHeartbeats 4000000 in
theorem rhoadd_any (id tag s : List UInt8) (A : Option Addr) (c : Nat) (l : List LinkL) (w : World) (hl : RdLinks w w.heap.size (.slice A l.length c) l) (hn : l.length ≤ 10000) (ht : tag.length ≤ 100000) (hs : s.length ≤ 100000) :
    Calls Tryz.prog 45 #[tokV id (.slice A l.length c) tag, .string (ofL s)] w (TokNew w (addL ⟨id, l, tag⟩ s)) := by
  have zs : (ofL s).size = s.length := size_ofL _
  have cN := Kp.mk (fun (W : World) (h2 : RdLinks W W.heap.size (.slice A l.length c) l) => rwlink_any id tag s [] A c l W h2 hn ht (by simp; omega))
  have HL := Kp.mk hl
  obtain ⟨W0, hW0, E0, hs0, B1, B2⟩ := tok_boxes2 w (.string (ofL id)) (.slice A l.length c) (.string (ofL tag))
  have L0 := rd_at HL.out E0
  have HW := Kp.mk hW0
  clear hl hW0
  unfold tokV at *
  by_cases g1 : 64 ≤ l.length
  · rw [addL_limit (.inl g1)]
    have g2 : (64 : Int) ≤ l.length := by omega
    go_enter Tryz.func45, Tryz.ntmps45
    go_wp2
    rw [HW.out]
    exact ret_tok0 rfl rfl rfl B2 E0
  · have g3 : ¬ (64 : Int) ≤ l.length := by omega
    by_cases g2 : 2048 < s.length
    · rw [addL_limit (.inr g2)]
      go_enter Tryz.func45, Tryz.ntmps45
      go_wp2
      rw [HW.out]
      exact ret_tok0 rfl rfl rfl B2 E0
    · rw [addL_ok (by show l.length < 64; omega) (by omega)]
      go_enter Tryz.func45, Tryz.ntmps45
      go_wp2_with fail
      rw [HW.out]
      refine (cN.out _ L0).mono ?_
      rintro e w2 ⟨v, rfl, own, E2⟩
      obtain ⟨g9, cap9, e9⟩ := ownsRow_succ (k := l.length) (own_eq own rfl (by show (l ++ [(s, [])]).length = _; simp))
      dsimp only at e9 own
      subst e9
      have F2 := E0.tr E2
      have hA2 := B2.ext E2 B2.lt
      have hlt := B2.lt
      have q0 := hA2.cell 0; have q1 := hA2.cell 1; have q2 := hA2.cell 2
      have z0 := hA2.frozen 0; have z1 := hA2.frozen 1; have z2 := hA2.frozen 2
      simp only [List.getElem?_cons_zero, List.getElem?_cons_succ] at q0 q1 q2
      clear B1 B2 E2 E0 cN HW
      dsimp only [tokV]
      go_wp2
      exact ret_tok (r := (withL ⟨id, l, tag⟩ (s, []), 0)) rfl rfl rfl hA2 (by omega) F2 hlt own

set_option maxRecDepth 100000 in
set_option maxHeartbeats 4000000 in
theorem hothird_any (id tag s k n : List UInt8) (A : Option Addr) (c : Nat) (l : List LinkL) (w : World) (hT : Tab w) (hl : RdLinks w w.heap.size (.slice A l.length c) l) (hn : l.length ≤ 10000) (ht : tag.length ≤ 100000) (hs : s.length ≤ 100000) :
    Calls Tryz.prog 25 #[tokV id (.slice A l.length c) tag, .string (ofL s), .string (ofL k), .string (ofL n)] w (TokNew w (thirdR ⟨id, l, tag⟩ s k n)) := by
  have zs : (ofL s).size = s.length := size_ofL _
  have cF := Kp.mk (fun W => full_any id tag A c l W)
  have HL := Kp.mk hl
  obtain ⟨W0, hW0, E0, hs0, B1, B2, B3⟩ := tok_boxes3 w (.string (ofL id)) (.slice A l.length c) (.string (ofL tag)) 87
  have HW := Kp.mk hW0
  clear hl hW0
  unfold tokV at *
  by_cases g1 : 64 ≤ l.length
  · have d1 : decide (64 ≤ (l.length : Int)) = true := by simp; omega
    rw [d1] at cF
    rw [thirdR_limit (.inl g1)]
    clear d1
    go_enter Tryz.func25, Tryz.ntmps25
    go_wp2_with fail
    rw [HW.out]
    refine (cF.out _).mono ?_
    rintro e w1 ⟨rfl, E1⟩
    have F1 := E0.tr E1
    have hA := B2.ext E1 B2.lt
    have hH := B3.ext E1 B3.lt
    have q0 := hA.cell 0; have q1 := hA.cell 1; have q2 := hA.cell 2
    have z0 := hA.frozen 0; have z1 := hA.frozen 1; have z2 := hA.frozen 2
    have y0 := hH.cell 0; have y1 := hH.cell 1; have y2 := hH.cell 2
    simp only [List.getElem?_cons_zero, List.getElem?_cons_succ] at q0 q1 q2 y0 y1 y2
    clear B1 B2 B3 E1 E0 HW
    go_wp2
    exact ret_tok (r := (tok0, 3)) rfl rfl rfl hA (by omega) F1 (Nat.lt_succ_self _) (World.ownsRow_nil _ _ _ _)
  · have d1 : decide (64 ≤ (l.length : Int)) = false := by simp; omega
    rw [d1] at cF
    clear d1
    by_cases g2 : 4144 < s.length
    · rw [thirdR_limit (.inr g2)]
      go_enter Tryz.func25, Tryz.ntmps25
      go_wp2_with fail
      rw [HW.out]
      refine (cF.out _).mono ?_
      rintro e w1 ⟨rfl, E1⟩
      have F1 := E0.tr E1
      have hA := B2.ext E1 B2.lt
      have hH := B3.ext E1 B3.lt
      have q0 := hA.cell 0; have q1 := hA.cell 1; have q2 := hA.cell 2
      have z0 := hA.frozen 0; have z1 := hA.frozen 1; have z2 := hA.frozen 2
      have y0 := hH.cell 0; have y1 := hH.cell 1; have y2 := hH.cell 2
      simp only [List.getElem?_cons_zero, List.getElem?_cons_succ] at q0 q1 q2 y0 y1 y2
      clear B1 B2 B3 E1 E0 HW
      go_wp2
      exact ret_tok (r := (tok0, 3)) rfl rfl rfl hA (by omega) F1 (Nat.lt_succ_self _) (World.ownsRow_nil _ _ _ _)
    · rw [thirdR_seal (by show l.length < 64; omega) (by omega)]
      dsimp only
      obtain ⟨K, hK⟩ : ∃ K, sealL tag = K := ⟨_, rfl⟩
      have lK : K.length = 32 := by rw [← hK]; exact length_partsL _ _
      have cS := Kp.mk (show ∀ W, Tab W → Calls Tryz.prog 58 #[.string (ofL tag)] W fun e w' => e = .returned (.string (ofL K)) ∧ Ext W w' from fun W h => by rw [← hK]; exact seal_any tag W h ht)
      have cB := Kp.mk (show ∀ W, Tab W → _ from fun W h => seal_box K n k W h (by omega))
      have hbnd := Kp.mk (fun h => (sealR_bound (k := K) (n := n) (t := k) h))
      have hfst := Kp.mk (sealR_fst (k := K) (n := n) (t := k))
      have herr := sealR_err (k := K) (n := n) (t := k)
      rw [hK]
      obtain ⟨R, hR⟩ : ∃ R, sealR K n k = R := ⟨_, rfl⟩
      rw [hR] at cB hbnd hfst herr ⊢
      obtain ⟨S, x⟩ := R
      unfold resV at cB
      dsimp only at hbnd hfst herr cB ⊢
      clear hK hR
      by_cases hx : x = 0
      · subst hx
        have hSl : S.length ≤ 5000 := by have := hfst.out; have := hbnd.out rfl; omega
        rw [if_pos rfl]
        have cN := Kp.mk (fun (W : World) (h1 : Tab W) (h2 : RdLinks W W.heap.size (.slice A l.length c) l) => with_any id tag s S A c l W h1 h2 hn ht (by omega))
        unfold tokV at cN
        clear herr hbnd hfst
        go_enter Tryz.func25, Tryz.ntmps25
        go_wp2_with fail
        rw [HW.out]
        refine (cF.out _).mono ?_
        rintro e w1 ⟨rfl, E1⟩
        have F1 := E0.tr E1
        have hA := B2.ext E1 B2.lt
        have hH := B3.ext E1 B3.lt
        have q0 := hA.cell 0; have q1 := hA.cell 1; have q2 := hA.cell 2
        have z0 := hA.frozen 0; have z1 := hA.frozen 1; have z2 := hA.frozen 2
        have y0 := hH.cell 0; have y1 := hH.cell 1; have y2 := hH.cell 2
        simp only [List.getElem?_cons_zero, List.getElem?_cons_succ] at q0 q1 q2 y0 y1 y2
        clear B1 B2 B3 E1 E0 HW
        go_wp2_with fail
        refine (cS.out _ (hT.ext F1)).mono ?_
        rintro e w2 ⟨rfl, E2⟩
        have F2 := F1.tr E2
        have hA2 := hA.ext E2 hA.lt
        clear q0 q1 q2 z0 z1 z2 hA
        go_wp2_with fail
        refine (cB.out _ (hT.ext F2)).mono ?_
        rintro e w3 ⟨rfl, E3⟩
        have F3 := F2.tr E3
        have hA3 := hA2.ext E3 hA2.lt
        have hH3 := hH.ext (E2.tr E3) hH.lt
        have L3 := rd_at HL.out F3
        have hlt := hA3.lt
        have q0 := hA3.cell 0; have q1 := hA3.cell 1; have q2 := hA3.cell 2
        have z0 := hA3.frozen 0; have z1 := hA3.frozen 1; have z2 := hA3.frozen 2
        clear y0 y1 y2
        have y0 := hH3.cell 0; have y1 := hH3.cell 1; have y2 := hH3.cell 2
        simp only [List.getElem?_cons_zero, List.getElem?_cons_succ] at q0 q1 q2 y0 y1 y2
        clear hA2 hH hH3 E2 E3 F1 F2
        go_wp2_with fail
        refine (cN.out _ (hT.ext F3) L3).mono ?_
        rintro e w4 ⟨v, rfl, own, E4⟩
        obtain ⟨g9, cap9, rfl⟩ := ownsRow_succ own
        have F4 := F3.tr E4
        have hA4 := hA3.ext E4 hA3.lt
        clear q0 q1 q2 z0 z1 z2
        have q0 := hA4.cell 0; have q1 := hA4.cell 1; have q2 := hA4.cell 2
        have z0 := hA4.frozen 0; have z1 := hA4.frozen 1; have z2 := hA4.frozen 2
        simp only [List.getElem?_cons_zero, List.getElem?_cons_succ] at q0 q1 q2
        clear hA3 y0 y1 y2 E4 F3 cF cN cS cB
        go_wp2
        exact ret_tok (r := (withL ⟨id, l, tag⟩ (s, S), 0)) rfl rfl rfl hA4 (by omega) F4 hlt (own_eq own rfl (by simp [withL]))
      · rw [if_neg hx]
        have d3 : ((x : Int) != 0) = true := by simp; omega
        have hx2 := Kp.mk hx
        clear hbnd hfst hx herr
        go_enter Tryz.func25, Tryz.ntmps25
        go_wp2_with fail
        rw [HW.out]
        refine (cF.out _).mono ?_
        rintro e w1 ⟨rfl, E1⟩
        have F1 := E0.tr E1
        have hA := B2.ext E1 B2.lt
        have hH := B3.ext E1 B3.lt
        have q0 := hA.cell 0; have q1 := hA.cell 1; have q2 := hA.cell 2
        have z0 := hA.frozen 0; have z1 := hA.frozen 1; have z2 := hA.frozen 2
        have y0 := hH.cell 0; have y1 := hH.cell 1; have y2 := hH.cell 2
        simp only [List.getElem?_cons_zero, List.getElem?_cons_succ] at q0 q1 q2 y0 y1 y2
        clear B1 B2 B3 E1 E0 HW
        go_wp2_with fail
        refine (cS.out _ (hT.ext F1)).mono ?_
        rintro e w2 ⟨rfl, E2⟩
        have F2 := F1.tr E2
        have hA2 := hA.ext E2 hA.lt
        clear q0 q1 q2 z0 z1 z2 hA
        go_wp2_with fail
        refine (cB.out _ (hT.ext F2)).mono ?_
        rintro e w3 ⟨rfl, E3⟩
        have F3 := F2.tr E3
        have hA3 := hA2.ext E3 hA2.lt
        have hH3 := hH.ext (E2.tr E3) hH.lt
        have L3 := rd_at HL.out F3
        have hlt := hA3.lt
        have q0 := hA3.cell 0; have q1 := hA3.cell 1; have q2 := hA3.cell 2
        have z0 := hA3.frozen 0; have z1 := hA3.frozen 1; have z2 := hA3.frozen 2
        clear y0 y1 y2
        have y0 := hH3.cell 0; have y1 := hH3.cell 1; have y2 := hH3.cell 2
        simp only [List.getElem?_cons_zero, List.getElem?_cons_succ] at q0 q1 q2 y0 y1 y2
        clear hA2 hH hH3 E2 E3 F1 F2
        go_wp2
        exact ret_tok (r := (tok0, x)) rfl rfl rfl hA3 (by omega) F3 (Nat.lt_succ_self _) (World.ownsRow_nil _ _ _ _)
end Go.Proofs.YtejhiekikblbiaaGreatDoor

namespace Go.Proofs.YtejhiekikblbiaaGreatDoor
open Go.RowKit

end Go.Proofs.YtejhiekikblbiaaGreatDoor

namespace Go.Proofs.YtejhiekikblbiaaGreatDoor
open Go.RowKit

theorem tok_boxes_bind (w : World) (a b c a' b' c' : Value) : ∃ W, (((w.alloc (.cells #[a, b, c] 33)).alloc (.cells #[a', b', c'] 33)).alloc (.cells #[.string ⟨#[]⟩, .slice none 0 0, .string ⟨#[]⟩] 33)) = W ∧ Ext w W ∧ W.heap.size = w.heap.size + 3 ∧
    Arr W w.heap.size 33 [a, b, c] ∧ Arr W (w.heap.size + 1) 33 [a', b', c'] ∧ Arr W (w.heap.size + 1 + 1) 33 [.string ⟨#[]⟩, .slice none 0 0, .string ⟨#[]⟩] := by
  refine ⟨_, rfl, (((Ext.rfl' w).al _).al _).al _, by simp, ((Arr.new w 33 [a, b, c]).alloc _).alloc _, ?_, ?_⟩
  · have q := (Arr.new (w.alloc (.cells #[a, b, c] 33)) 33 [a', b', c']).alloc (.cells #[.string ⟨#[]⟩, .slice none 0 0, .string ⟨#[]⟩] 33)
    rw [World.size_alloc] at q
    exact q
  · have q := Arr.new ((w.alloc (.cells #[a, b, c] 33)).alloc (.cells #[a', b', c'] 33)) 33 [.string ⟨#[]⟩, .slice none 0 0, .string ⟨#[]⟩]
    rw [World.size_alloc, World.size_alloc] at q
    exact q

set_option maxRecDepth 100000 in
set_option maxHeartbeats 4000000 in
theorem hobind_any (id1 tag1 id tag : List UInt8) (A1 : Option Addr) (n1 c1 : Nat) (A : Option Addr) (c : Nat) (l : List LinkL) (w : World) (hT : Tab w) (hl : RdLinks w w.heap.size (.slice A l.length c) l) (hn : l.length ≤ 10000) (ht1 : tag1.length ≤ 100000) (ht : tag.length ≤ 100000) :
    Calls Tryz.prog 27 #[tokV id1 (.slice A1 n1 c1) tag1, tokV id (.slice A l.length c) tag] w (TokOne w ⟨id, l, bindL tag1 tag⟩) := by
  obtain ⟨T, hTg⟩ : ∃ T, bindL tag1 tag = T := ⟨_, rfl⟩
  have cN := Kp.mk (show ∀ W, Tab W → Calls Tryz.prog 61 #[.string (ofL tag1), .string (ofL tag)] W fun e w' => e = .returned (.string (ofL T)) ∧ Ext W w' from fun W h => by rw [← hTg]; exact bind_any tag1 tag W h ht1 ht)
  rw [hTg]
  have HL := Kp.mk hl
  obtain ⟨W0, hW0, E0, hs0, B1, B2, B3⟩ := tok_boxes_bind w (.string (ofL id1)) (.slice A1 n1 c1) (.string (ofL tag1)) (.string (ofL id)) (.slice A l.length c) (.string (ofL tag))
  have HW := Kp.mk hW0
  clear hl hW0 hTg
  unfold tokV
  go_enter Tryz.func27, Tryz.ntmps27
  go_upto_region 1 with fail
  rw [HW.out]
  refine wp_region_tails (fun i v W => match i with
    | 0 => v = .pointer (some ⟨w.heap.size + 1, 0, none⟩)
    | 1 => v = .string (ofL id)
    | 2 => v = .pointer (some ⟨w.heap.size + 1, 1, none⟩)
    | 3 => v = .slice A l.length c
    | 4 => W.ownsRow (w.heap.size + 3) 72 2 v l.length (linkCells l)
    | 5 => v = .pointer (some ⟨w.heap.size, 2, none⟩)
    | 6 => v = .string (ofL tag1)
    | 7 => v = .pointer (some ⟨w.heap.size + 1, 2, none⟩)
    | 8 => v = .string (ofL tag)
    | 9 => v = .string (ofL T)
    | _ => True) 10 (by kernel_rfl) (by kernel_rfl) (by kernel_rfl) (by decide) (by kernel_rfl) (by kernel_rfl) (by kernel_rfl) ?_ ?_ ?_
  · intro i v W1 W2 e1 e2 h
    match i, h with
    | 0, h => exact h
    | 1, h => exact h
    | 2, h => exact h
    | 3, h => exact h
    | 4, h => exact own_ext h (fun j _ hj => e2.block j hj)
    | 5, h => exact h
    | 6, h => exact h
    | 7, h => exact h
    | 8, h => exact h
    | 9, h => exact h
    | (i + 10), h => exact h
  · refine localsR_cons (fun u W hW hd => leaves_val rfl (v := .pointer (some ⟨w.heap.size + 1, 0, none⟩)) (by go_simp) rfl) ?_
    refine localsR_cons (fun u W hW hd => ?_) ?_
    · have h0 : u 0 = _ := hd 0 (by kernel_rfl)
      have q0 := (B2.ext hW B2.lt).cell 0
      simp only [List.getElem?_cons_zero] at q0
      exact leaves_val rfl (v := .string (ofL id)) (by go_simp) rfl
    refine localsR_cons (fun u W hW hd => leaves_val rfl (v := .pointer (some ⟨w.heap.size + 1, 1, none⟩)) (by go_simp) rfl) ?_
    refine localsR_cons (fun u W hW hd => ?_) ?_
    · have h2 : u 2 = _ := hd 2 (by kernel_rfl)
      have q1 := (B2.ext hW B2.lt).cell 1
      simp only [List.getElem?_cons_zero, List.getElem?_cons_succ] at q1
      exact leaves_val rfl (v := .slice A l.length c) (by go_simp) rfl
    refine localsR_cons (fun u W hW hd => ?_) ?_
    · have h3 : u 3 = _ := hd 3 (by kernel_rfl)
      exact leaves_call rfl (f := 60) (args := #[.slice A l.length c]) (by go_simp) ((lclone_any _ l W (rd_at HL.out (E0.tr hW)) (by omega)).mono (fun e W9 ⟨v9, h1, h2, h3⟩ => ⟨v9, h1, h3, own_more h2 (by have := hW.size; omega)⟩))
    refine localsR_cons (fun u W hW hd => leaves_val rfl (v := .pointer (some ⟨w.heap.size, 2, none⟩)) (by go_simp) rfl) ?_
    refine localsR_cons (fun u W hW hd => ?_) ?_
    · have h5 : u 5 = _ := hd 5 (by kernel_rfl)
      have q2 := (B1.ext hW B1.lt).cell 2
      simp only [List.getElem?_cons_zero, List.getElem?_cons_succ] at q2
      exact leaves_val rfl (v := .string (ofL tag1)) (by go_simp) rfl
    refine localsR_cons (fun u W hW hd => leaves_val rfl (v := .pointer (some ⟨w.heap.size + 1, 2, none⟩)) (by go_simp) rfl) ?_
    refine localsR_cons (fun u W hW hd => ?_) ?_
    · have h7 : u 7 = _ := hd 7 (by kernel_rfl)
      have q2 := (B2.ext hW B2.lt).cell 2
      simp only [List.getElem?_cons_zero, List.getElem?_cons_succ] at q2
      exact leaves_val rfl (v := .string (ofL tag)) (by go_simp) rfl
    refine localsR_cons (fun u W hW hd => ?_) localsR_nil
    · have h6 : u 6 = _ := hd 6 (by kernel_rfl)
      have h8 : u 8 = _ := hd 8 (by kernel_rfl)
      exact leaves_call rfl (f := 61) (args := #[.string (ofL tag1), .string (ofL tag)]) (by go_simp) ((cN.out W (hT.ext (E0.tr hW))).mono (by rintro e9 W9 ⟨rfl, h9⟩; exact ⟨_, rfl, h9, rfl⟩))
  · intro u W hW hV
    have h1 : u 1 = _ := hV 1 (by decide)
    have h4 := hV 4 (by decide)
    have h9 : u 9 = _ := hV 9 (by decide)
    clear hV
    have E9 := E0.tr hW
    have hA := B3.ext hW B3.lt
    obtain ⟨A9, cap9, e9⟩ := own_slice h4
    rw [e9] at h4
    have q0 := hA.cell 0; have q1 := hA.cell 1; have q2 := hA.cell 2
    have z0 := hA.frozen 0; have z1 := hA.frozen 1; have z2 := hA.frozen 2
    simp only [List.getElem?_cons_zero, List.getElem?_cons_succ] at q0 q1 q2
    clear B1 B2 B3 E0 HW hW
    go_simp
    go_wp2
    exact ret_tok1 (r := ⟨id, l, T⟩) rfl rfl hA (by omega) E9 (show w.heap.size + 1 + 1 < w.heap.size + 3 by omega) h4


set_option maxRecDepth 100000 in
@[go_sem] theorem Tryz.tok_field2 (a b c : Value) (W : World) : (Instr.field 33 (.agg #[a, b, c]) 2).run Tryz.prog W = .ok c W := by kernel_rfl
set_option maxRecDepth 100000 in
@[go_sem] theorem Tryz.tok_field1 (a b c : Value) (W : World) : (Instr.field 33 (.agg #[a, b, c]) 1).run Tryz.prog W = .ok b W := by kernel_rfl
set_option maxRecDepth 100000 in
@[go_sem] theorem Tryz.tok_field0 (a b c : Value) (W : World) : (Instr.field 33 (.agg #[a, b, c]) 0).run Tryz.prog W = .ok a W := by kernel_rfl
/-! ### tokens in slices -/
def tokCells (t : TokA) : List Value := [.string (ofL t.id), .slice t.A t.l.length t.c, .string (ofL t.tag)]
def toksCells (l : List TokA) : List Value := l.flatMap tokCells
def TokA.plain (t : TokA) : TokL := ⟨t.id, t.l, t.tag⟩
theorem toksCells_cons (t : TokA) (l : List TokA) : toksCells (t :: l) = .string (ofL t.id) :: .slice t.A t.l.length t.c :: .string (ofL t.tag) :: toksCells l := rfl
theorem toksCells_append (l m : List TokA) : toksCells (l ++ m) = toksCells l ++ toksCells m := by simp [toksCells]
theorem length_toksCells : ∀ l : List TokA, (toksCells l).length = l.length * 3
  | [] => rfl
  | x :: l => by rw [toksCells_cons, List.length_cons, List.length_cons, List.length_cons, length_toksCells l, List.length_cons]; omega
theorem toksCells_get : ∀ (l : List TokA) (k : Nat) (h : k < l.length), (toksCells l)[k * 3]? = some (.string (ofL l[k].id)) ∧ (toksCells l)[k * 3 + 1]? = some (.slice l[k].A l[k].l.length l[k].c) ∧ (toksCells l)[k * 3 + 2]? = some (.string (ofL l[k].tag))
  | [], k, h => by simp at h
  | x :: l, 0, _ => ⟨rfl, rfl, rfl⟩
  | x :: l, k + 1, h => by
    have ih := toksCells_get l k (by simpa using h)
    rw [show (k + 1) * 3 = k * 3 + 1 + 1 + 1 by omega, toksCells_cons]
    simp only [List.getElem?_cons_succ, List.getElem_cons_succ]
    exact ih
theorem oneCell_toks : ∀ (l : List TokA), ∀ u ∈ toksCells l, u.oneCell' = true
  | [], _, h => by cases h
  | x :: l, u, h => by
    rw [toksCells_cons] at h
    rcases List.mem_cons.1 h with rfl | h
    · rfl
    · rcases List.mem_cons.1 h with rfl | h
      · rfl
      · rcases List.mem_cons.1 h with rfl | h
        · rfl
        · exact oneCell_toks l u h
/-- A slice of tokens that is only read. -/
def RdToks (w : World) (B : Nat) (v : Value) (l : List TokA) : Prop := Rd w B 3 v l.length (toksCells l) ∧ ∀ t ∈ l, RdLinks w B (.slice t.A t.l.length t.c) t.l
theorem RdToks.ext {w w' : World} {B : Nat} {v : Value} {l : List TokA} (h : RdToks w B v l) (hE : Ext w w') (hB : B ≤ w.heap.size) : RdToks w' B v l := ⟨h.1.ext hE hB, fun t ht => (h.2 t ht).ext hE hB⟩
theorem RdToks.at {w w' : World} {v : Value} {l : List TokA} (h : RdToks w w.heap.size v l) (hE : Ext w w') : RdToks w' w'.heap.size v l := ⟨rd_at h.1 hE, fun t ht => rd_at (h.2 t ht) hE⟩
theorem RdToks.cells {w : World} {B : Nat} {v : Value} {l : List TokA} (h : RdToks w B v l) : ∃ A c, v = .slice A l.length c ∧ l.length ≤ 9223372036854775807 ∧ (0 < l.length → ∃ b off, A = some ⟨b, off, none⟩ ∧ b < B ∧ ∀ k (hk : k < l.length), w.cell? ⟨b, off + k * 3, none⟩ = some (.string (ofL l[k].id)) ∧ w.cell? ⟨b, off + k * 3 + 1, none⟩ = some (.slice l[k].A l[k].l.length l[k].c) ∧ w.cell? ⟨b, off + k * 3 + 2, none⟩ = some (.string (ofL l[k].tag))) := by
  obtain ⟨⟨A, c, rfl, hn, hl, hc⟩, _⟩ := h
  refine ⟨A, c, rfl, hn, fun h0 => ?_⟩
  obtain ⟨b, off, rfl, hb, hcell⟩ := hc h0
  exact ⟨b, off, rfl, hb, fun k hk => ⟨hcell _ _ (toksCells_get l k hk).1, hcell (k * 3 + 1) _ (toksCells_get l k hk).2.1, hcell (k * 3 + 2) _ (toksCells_get l k hk).2.2⟩⟩
/-- A token whose links are the call's own. -/
def OwnTok (W : World) (base : Nat) (t : TokA) : Prop := W.ownsRow base 72 2 (.slice t.A t.l.length t.c) t.l.length (linkCells t.l)
theorem OwnTok.ext {W W' : World} {base : Nat} {t : TokA} (h : OwnTok W base t) (hE : Ext W W') : OwnTok W' base t := own_ext h (fun j _ hj => hE.block j hj)
set_option maxRecDepth 100000 in
theorem Tryz.elemTok : Elem Tryz.prog 39 33 (.agg #[.string ⟨#[]⟩, .slice none 0 0, .string ⟨#[]⟩]) 3 56 :=
  ⟨Tryz.underlying39, info_parts (by kernel_rfl), rfl, by decide⟩
end Go.Proofs.YtejhiekikblbiaaGreatDoor

namespace Go.Proofs.YtejhiekikblbiaaGreatDoor
open Go.RowKit

/-- A row stays where a cell of a block of another type is turned. -/
theorem own_set_other {W : World} {base g j : Nat} {e t : TypeId} {size n : Nat} {v : Value} {xs ys : List Value} (h : W.ownsRow base e size v n xs) (hA : Arr W g t ys) (hne : e ≠ t) (u : Value) : (W.setCell ⟨g, j, none⟩ u).ownsRow base e size v n xs := by
  refine ⟨h.1, ?_⟩
  rcases h.2 with hn | ⟨g', cap, cur, rfl, hb, hg, rest⟩
  · exact .inl hn
  · refine .inr ⟨g', cap, cur, rfl, hb, ?_, rest⟩
    rw [heap_setCell_other W ⟨g, j, none⟩ g' u (fun e9 => ?_)]
    · exact hg
    · have e9 : g' = g := e9
      subst e9
      unfold Arr at hA
      rw [hg] at hA
      cases hA
      exact hne rfl
theorem own_sets_other {W : World} {base g : Nat} {e t : TypeId} {size n : Nat} {v : Value} {xs ys : List Value} (h : W.ownsRow base e size v n xs) (hA : Arr W g t ys) (hne : e ≠ t) (a b c d : Value) : ((((W.setCell ⟨g, 0, none⟩ a).setCell ⟨g, 1, none⟩ b).setCell ⟨g, 2, none⟩ c).setCell ⟨g, 3, none⟩ d).ownsRow base e size v n xs :=
  own_set_other (own_set_other (own_set_other (own_set_other h hA hne a) (hA.set 0 a) hne b) ((hA.set 0 a).set 1 b) hne c) (((hA.set 0 a).set 1 b).set 2 c) hne d
/-- A bundle as a value. -/
def bunV (id : List UInt8) (vl : Value) (tag : List UInt8) (vm : Value) : Value := .agg #[.string (ofL id), vl, .string (ofL tag), vm]
theorem bun_boxes (w : World) (a b c : Value) : ∃ W, ((w.alloc (.cells #[a, b, c] 33)).alloc (.cells #[.string ⟨#[]⟩, .slice none 0 0, .string ⟨#[]⟩, .slice none 0 0] 41)) = W ∧ Ext w W ∧ W.heap.size = w.heap.size + 2 ∧
    Arr W w.heap.size 33 [a, b, c] ∧ Arr W (w.heap.size + 1) 41 [.string ⟨#[]⟩, .slice none 0 0, .string ⟨#[]⟩, .slice none 0 0] := by
  refine ⟨_, rfl, ((Ext.rfl' w).al _).al _, by simp, (Arr.new w 33 [a, b, c]).alloc _, ?_⟩
  have q := Arr.new (w.alloc (.cells #[a, b, c] 33)) 41 [.string ⟨#[]⟩, .slice none 0 0, .string ⟨#[]⟩, .slice none 0 0]
  rw [World.size_alloc] at q
  exact q
def BunNew (w : World) (t : TokL) (ds : List TokL) (e : Ending) (w' : World) : Prop := ∃ vl vm ts, e = .returned (bunV t.id vl t.tag vm) ∧ RdLinks w' w'.heap.size vl t.links ∧ RdToks w' w'.heap.size vm ts ∧ ts.map TokA.plain = ds.map (bindT t) ∧ Ext w w'

/-- While the discharges are bound: the token's box, the result's, the bundle's, the links of what is bound. -/
structure BunFix (w W : World) (b : Nat) (id tag : List UInt8) (A : Option Addr) (c : Nat) (l : List LinkL) (A9 : Option Addr) (c9 : Nat) (vm : Value) (ts : List TokA) : Prop where
  ext : Ext w W
  tok : Arr W w.heap.size 33 [.string (ofL id), .slice A l.length c, .string (ofL tag)]
  res : Arr W (w.heap.size + 1) 41 [.string ⟨#[]⟩, .slice none 0 0, .string ⟨#[]⟩, .slice none 0 0]
  bun : Arr W b 41 [.string (ofL id), .slice A9 l.length c9, .string (ofL tag), vm]
  own : ∀ t ∈ ts, OwnTok W (w.heap.size + 2) t
  lnk : W.ownsRow (w.heap.size + 2) 72 2 (.slice A9 l.length c9) l.length (linkCells l)
theorem BunFix.up {w W W' : World} {b : Nat} {id tag : List UInt8} {A : Option Addr} {c : Nat} {l : List LinkL} {A9 : Option Addr} {c9 : Nat} {vm : Value} {ts : List TokA} (h : BunFix w W b id tag A c l A9 c9 vm ts) (e : Ext W W') : BunFix w W' b id tag A c l A9 c9 vm ts :=
  ⟨h.ext.tr e, h.tok.ext e h.tok.lt, h.res.ext e h.res.lt, h.bun.ext e h.bun.lt, fun t ht => (h.own t ht).ext e, own_ext h.lnk (fun j _ hj => e.block j hj)⟩
theorem BunFix.kept {w W W' : World} {b : Nat} {id tag : List UInt8} {A : Option Addr} {c : Nat} {l : List LinkL} {A9 : Option Addr} {c9 : Nat} {vm : Value} {ts : List TokA} {v : Value} {n : Nat} {xs : List Value} (h : BunFix w W b id tag A c l A9 c9 vm ts)
    (hr : W.ownsRow (w.heap.size + 2) 33 3 v n xs) (hg : W.grownBy W' v.ownBlock) : BunFix w W' b id tag A c l A9 c9 vm ts :=
  ⟨h.ext.own hg hr (by omega), arr_kept h.tok hg (fun r e => by have := (hr.lt r e).1; omega), arr_kept h.res hg (fun r e => by have := (hr.lt r e).1; omega), arr_kept_type h.bun hr (by decide) hg, fun t ht => own_kept_type (h.own t ht) hr (by decide) hg, own_kept_type h.lnk hr (by decide) hg⟩
theorem BunFix.set {w W : World} {b : Nat} {id tag : List UInt8} {A : Option Addr} {c : Nat} {l : List LinkL} {A9 : Option Addr} {c9 : Nat} {vm : Value} {ts : List TokA} (h : BunFix w W b id tag A c l A9 c9 vm ts) (hb : w.heap.size + 2 ≤ b) (u : Value) : BunFix w (W.setCell ⟨b, 3, none⟩ u) b id tag A c l A9 c9 u ts :=
  ⟨h.ext.st (p := ⟨b, 3, none⟩) (by show w.heap.size ≤ b; omega) u, h.tok.other u (by omega), h.res.other u (by omega), h.bun.set 3 u, fun t ht => own_set_other (h.own t ht) h.bun (by decide) u, own_set_other h.lnk h.bun (by decide) u⟩
set_option maxRecDepth 100000 in
set_option maxHeartbeats 4000000 in
theorem hobundle_any (id tag : List UInt8) (A : Option Addr) (c : Nat) (l : List LinkL) (vd : Value) (ds : List TokA) (w : World) (hT : Tab w) (hl : RdLinks w w.heap.size (.slice A l.length c) l) (hd : RdToks w w.heap.size vd ds) (hn : l.length ≤ 10000) (ht : tag.length ≤ 100000) (hds : ∀ d ∈ ds, d.l.length ≤ 10000 ∧ d.tag.length ≤ 100000) (hdn : ds.length ≤ 10000) :
    Calls Tryz.prog 28 #[tokV id (.slice A l.length c) tag, vd] w (BunNew w ⟨id, l, tag⟩ (ds.map TokA.plain)) := by
  have HL := Kp.mk hl
  obtain ⟨Ad, cd, rfl, hdm, hcells⟩ := hd.cells
  have HD := Kp.mk hd
  have HC := Kp.mk hcells
  have HS := Kp.mk hds
  clear hl hd hcells hds
  obtain ⟨W0, hW0, E0, hs0, B1, B2⟩ := bun_boxes w (.string (ofL id)) (.slice A l.length c) (.string (ofL tag))
  have HW := Kp.mk hW0
  clear hW0
  unfold tokV
  go_enter Tryz.func28, Tryz.ntmps28
  go_upto_region 1 with fail
  rw [HW.out]
  refine wp_region_tails (fun i v W => match i with
    | 0 => v = .pointer (some ⟨w.heap.size, 0, none⟩)
    | 1 => v = .string (ofL id)
    | 2 => v = .pointer (some ⟨w.heap.size, 1, none⟩)
    | 3 => v = .slice A l.length c
    | 4 => W.ownsRow (w.heap.size + 2) 72 2 v l.length (linkCells l)
    | 5 => v = .pointer (some ⟨w.heap.size, 2, none⟩)
    | 6 => v = .string (ofL tag)
    | 7 => ∃ A9 c9, v = .agg #[.string (ofL id), .slice A9 l.length c9, .string (ofL tag)] ∧ W.ownsRow (w.heap.size + 2) 72 2 (.slice A9 l.length c9) l.length (linkCells l)
    | 8 => ∃ A9 c9, v = .agg #[.string (ofL id), .slice A9 l.length c9, .string (ofL tag), .slice none 0 0] ∧ W.ownsRow (w.heap.size + 2) 72 2 (.slice A9 l.length c9) l.length (linkCells l)
    | 9 => ∃ b, v = .pointer (some ⟨b, 0, none⟩) ∧ w.heap.size + 2 ≤ b ∧ Arr W b 41 [.string ⟨#[]⟩, .slice none 0 0, .string ⟨#[]⟩, .slice none 0 0]
    | _ => True) 10 (by kernel_rfl) (by kernel_rfl) (by kernel_rfl) (by decide) (by kernel_rfl) (by kernel_rfl) (by kernel_rfl) ?_ ?_ ?_
  · intro i v W1 W2 e1 e2 h
    match i, h with
    | 0, h => exact h
    | 1, h => exact h
    | 2, h => exact h
    | 3, h => exact h
    | 4, h => exact own_ext h (fun j _ hj => e2.block j hj)
    | 5, h => exact h
    | 6, h => exact h
    | 7, ⟨A9, c9, h1, h2⟩ => exact ⟨A9, c9, h1, own_ext h2 (fun j _ hj => e2.block j hj)⟩
    | 8, ⟨A9, c9, h1, h2⟩ => exact ⟨A9, c9, h1, own_ext h2 (fun j _ hj => e2.block j hj)⟩
    | 9, ⟨b, h1, h2, h3⟩ => exact ⟨b, h1, h2, h3.ext e2 h3.lt⟩
    | (i + 10), h => exact h
  · refine localsR_cons (fun u W hW hd => leaves_val rfl (v := .pointer (some ⟨w.heap.size, 0, none⟩)) (by go_simp) rfl) ?_
    refine localsR_cons (fun u W hW hd => ?_) ?_
    · have h0 : u 0 = _ := hd 0 (by kernel_rfl)
      have q0 := (B1.ext hW B1.lt).cell 0
      simp only [List.getElem?_cons_zero] at q0
      exact leaves_val rfl (v := .string (ofL id)) (by go_simp) rfl
    refine localsR_cons (fun u W hW hd => leaves_val rfl (v := .pointer (some ⟨w.heap.size, 1, none⟩)) (by go_simp) rfl) ?_
    refine localsR_cons (fun u W hW hd => ?_) ?_
    · have h2 : u 2 = _ := hd 2 (by kernel_rfl)
      have q1 := (B1.ext hW B1.lt).cell 1
      simp only [List.getElem?_cons_zero, List.getElem?_cons_succ] at q1
      exact leaves_val rfl (v := .slice A l.length c) (by go_simp) rfl
    refine localsR_cons (fun u W hW hd => ?_) ?_
    · have h3 : u 3 = _ := hd 3 (by kernel_rfl)
      exact leaves_call rfl (f := 60) (args := #[.slice A l.length c]) (by go_simp) ((lclone_any _ l W (rd_at HL.out (E0.tr hW)) (by omega)).mono (fun e W9 ⟨v9, h1, h2, h3⟩ => ⟨v9, h1, h3, own_more h2 (by have := hW.size; omega)⟩))
    refine localsR_cons (fun u W hW hd => leaves_val rfl (v := .pointer (some ⟨w.heap.size, 2, none⟩)) (by go_simp) rfl) ?_
    refine localsR_cons (fun u W hW hd => ?_) ?_
    · have h5 : u 5 = _ := hd 5 (by kernel_rfl)
      have q2 := (B1.ext hW B1.lt).cell 2
      simp only [List.getElem?_cons_zero, List.getElem?_cons_succ] at q2
      exact leaves_val rfl (v := .string (ofL tag)) (by go_simp) rfl
    refine localsR_cons (fun u W hW hd => ?_) ?_
    · have h1 : u 1 = _ := hd 1 (by kernel_rfl)
      have h4 := hd 4 (by kernel_rfl)
      have h6 : u 6 = _ := hd 6 (by kernel_rfl)
      obtain ⟨A9, c9, e9⟩ := own_slice h4
      rw [e9] at h4
      exact leaves_val rfl (v := .agg #[.string (ofL id), .slice A9 l.length c9, .string (ofL tag)]) (by go_simp) ⟨A9, c9, rfl, h4⟩
    refine localsR_cons (fun u W hW hd => ?_) ?_
    · have h7 := hd 7 (by kernel_rfl)
      obtain ⟨A9, c9, e9, h7⟩ := h7
      exact leaves_val rfl (v := .agg #[.string (ofL id), .slice A9 l.length c9, .string (ofL tag), .slice none 0 0]) (by go_simp) ⟨A9, c9, rfl, h7⟩
    refine localsR_cons (fun u W hW hd => ?_) localsR_nil
    · exact leaves_new rfl (v := .pointer (some ⟨W.heap.size, 0, none⟩)) (w' := W.alloc (.cells #[.string ⟨#[]⟩, .slice none 0 0, .string ⟨#[]⟩, .slice none 0 0] 41)) (by go_simp) ((Ext.rfl' W).al _) ⟨_, rfl, by have := hW.size; omega, Arr.new W _ [.string ⟨#[]⟩, .slice none 0 0, .string ⟨#[]⟩, .slice none 0 0]⟩
  · intro u W hW hV
    obtain ⟨A9, c9, h8, own8⟩ := hV 8 (by decide)
    obtain ⟨b, h9, hb, hA⟩ := hV 9 (by decide)
    clear hV
    have E9 := E0.tr hW
    have C1 := B1.ext hW B1.lt
    have C2 := B2.ext hW B2.lt
    have q0 := hA.cell 0; have q1 := hA.cell 1; have q2 := hA.cell 2; have q3 := hA.cell 3
    have z0 := hA.frozen 0; have z1 := hA.frozen 1; have z2 := hA.frozen 2; have z3 := hA.frozen 3
    simp only [List.getElem?_cons_zero, List.getElem?_cons_succ] at q0 q1 q2 q3
    clear B1 B2 E0 HW hW
    go_simp
    go_wp2_with fail
    obtain ⟨W1, hW1⟩ : ∃ W1 : World, W1 = (((W.setCell ⟨b, 0, none⟩ (.string (ofL id))).setCell ⟨b, 1, none⟩ (.slice A9 l.length c9)).setCell ⟨b, 2, none⟩ (.string (ofL tag))).setCell ⟨b, 3, none⟩ (.slice none 0 0) := ⟨_, rfl⟩
    rw [← hW1]
    have S0 : BunFix w W1 b id tag A c l A9 c9 (.slice none 0 0) [] := by
      have hlw : w.heap.size ≠ b := by omega
      have hlw1 : w.heap.size + 1 ≠ b := by omega
      rw [hW1]
      exact ⟨(((E9.st (p := ⟨b, 0, none⟩) (by show w.heap.size ≤ b; omega) _).st (p := ⟨b, 1, none⟩) (by show w.heap.size ≤ b; omega) _).st (p := ⟨b, 2, none⟩) (by show w.heap.size ≤ b; omega) _).st (p := ⟨b, 3, none⟩) (by show w.heap.size ≤ b; omega) _,
        (((C1.other _ hlw).other _ hlw).other _ hlw).other _ hlw, (((C2.other _ hlw1).other _ hlw1).other _ hlw1).other _ hlw1, (((hA.set 0 _).set 1 _).set 2 _).set 3 _, fun t h => (by cases h), own_sets_other own8 hA (by decide) _ _ _ _⟩
    clear hW1 E9 C1 C2 hA q0 q1 q2 q3 z0 z1 z2 z3 own8 h8 h9
    go_loopw [19] (fun i wr => ∃ (k : Nat) (vm : Value) (ts : List TokA), k ≤ ds.length ∧ i = .int .i64 k ∧ ts.map TokA.plain = (ds.take k).map (fun d => bindT ⟨id, l, tag⟩ d.plain) ∧ BunFix w wr b id tag A c l A9 c9 vm ts ∧ wr.ownsRow (w.heap.size + 2) 33 3 vm k (toksCells ts)) (fun i _ => ds.length - (intOf i).toNat)
    case atStart => exact ⟨0, _, [], by omega, rfl, rfl, S0, World.ownsRow_nil _ _ _ _⟩
    case round =>
      clear S0
      obtain ⟨k, vm, ts, hk, rfl, hts0, hS, hrow⟩ := hrel
      have hts := Kp.mk hts0
      clear hts0
      by_cases hlt : k < ds.length
      · obtain ⟨bd, od, rfl, hbd, hc⟩ := HC.out (by omega)
        obtain ⟨d, hd⟩ : ∃ d, ds[k] = d := ⟨_, rfl⟩
        have e1 := ((bcell hS.ext).1 bd (od + k * 3) hbd).trans (hc k hlt).1
        have e2 := ((bcell hS.ext).1 bd (od + k * 3 + 1) hbd).trans (hc k hlt).2.1
        have e3 := ((bcell hS.ext).1 bd (od + k * 3 + 2) hbd).trans (hc k hlt).2.2
        rw [hd] at e1 e2 e3
        have hdm2 : d ∈ ds := by rw [← hd]; exact List.getElem_mem hlt
        obtain ⟨hdl, hdt⟩ := HS.out d hdm2
        have DL := Kp.mk (HD.out.2 d hdm2)
        obtain ⟨T, hTg⟩ : ∃ T, bindL tag d.tag = T := ⟨_, rfl⟩
        have cB := Kp.mk (show ∀ W, Tab W → RdLinks W W.heap.size (.slice d.A d.l.length d.c) d.l → Calls Tryz.prog 27 #[.agg #[.string (ofL id), .slice A l.length c, .string (ofL tag)], .agg #[.string (ofL d.id), .slice d.A d.l.length d.c, .string (ofL d.tag)]] W (TokOne W ⟨d.id, d.l, T⟩) from fun W h1 h2 => by rw [← hTg]; exact hobind_any id tag d.id d.tag A l.length c d.A d.c d.l W h1 h2 hdl ht hdt)
        have htn := Kp.mk (show (ds.take (k + 1)).map (fun d => bindT ⟨id, l, tag⟩ d.plain) = (ds.take k).map (fun d => bindT ⟨id, l, tag⟩ d.plain) ++ [⟨d.id, d.l, T⟩] by
          rw [take_snoc ds k hlt, List.map_append, List.map_singleton, hd, ← hTg]; rfl)
        clear hc hd hTg hdm2
        go_upto_region 5 with fail
        obtain ⟨W5, hW5⟩ : ∃ W5 : World, W5 = wr.alloc (.cells #[.string (ofL d.id), .slice d.A d.l.length d.c, .string (ofL d.tag)] 33) := ⟨_, rfl⟩
        rw [← hW5]
        have hE5 : Ext wr W5 := by rw [hW5]; exact (Ext.rfl' wr).al _
        have S5 := hS.up hE5
        have R5 := own_ext hrow (fun j _ hj => hE5.block j hj)
        have G5 : Arr W5 wr.heap.size 33 [.string (ofL d.id), .slice d.A d.l.length d.c, .string (ofL d.tag)] := by rw [hW5]; exact Arr.new wr _ _
        have hrb : ∀ r, vm.ownBlock = some r → r < wr.heap.size := fun r e => (hrow.lt r e).2
        have hs5 : w.heap.size + 2 ≤ W5.heap.size := by have := hS.res.lt; have := hE5.size; omega
        clear hW5 hS hrow hE5 e1 e2 e3
        refine wp_region_stages [6] (fun bs W => w.heap.size + 2 ≤ W.heap.size ∧ BunFix w W b id tag A c l A9 c9 vm ts ∧ Arr W wr.heap.size 33 [.string (ofL d.id), .slice d.A d.l.length d.c, .string (ofL d.tag)] ∧ (bs[0]? = some false → W.ownsRow (w.heap.size + 2) 33 3 vm k (toksCells ts))) (fun bs i v W => match i with
          | 0 => v = .pointer (some ⟨b, 3, none⟩)
          | 1 => v = vm
          | 2 => v = .agg #[.string (ofL id), .slice A l.length c, .string (ofL tag)]
          | 3 => v = .agg #[.string (ofL d.id), .slice d.A d.l.length d.c, .string (ofL d.tag)]
          | 4 => ∃ A8 c8, v = .agg #[.string (ofL d.id), .slice A8 d.l.length c8, .string (ofL T)] ∧ W.ownsRow (w.heap.size + 2) 72 2 (.slice A8 d.l.length c8) d.l.length (linkCells d.l)
          | 5 => ∃ b5 A8 c8, v = .slice (some ⟨b5, 0, none⟩) 1 1 ∧ (bs[0]? = some false → Arr W b5 33 [.string (ofL d.id), .slice A8 d.l.length c8, .string (ofL T)]) ∧ W.ownsRow (w.heap.size + 2) 72 2 (.slice A8 d.l.length c8) d.l.length (linkCells d.l)
          | 6 => bs[0]? = some true ∧ ∃ t : TokA, t.plain = ⟨d.id, d.l, T⟩ ∧ W.ownsRow (w.heap.size + 2) 33 3 v (k + 1) (toksCells (ts ++ [t])) ∧ OwnTok W (w.heap.size + 2) t
          | 7 => v = .pointer (some ⟨b, 3, none⟩)
          | _ => True) 8 (cs_inj (by decide)) (by decide) (by kernel_rfl) (by kernel_rfl) (by kernel_rfl) (by decide) (by kernel_rfl) (by kernel_rfl) (by kernel_rfl) (⟨hs5, S5.up (Ext.rfl' W5).dr, G5, fun _ => R5⟩) (fun bs W1 W2 ⟨a, p, q, r⟩ e => ⟨by have := e.size; omega, p.up e, q.ext e q.lt, fun hb => own_ext (r hb) (fun j _ hj => e.block j hj)⟩) ?_ ?_ ?_
        · intro bs i v W1 W2 e1 e2 h
          match i, h with
          | 0, h => exact h
          | 1, h => exact h
          | 2, h => exact h
          | 3, h => exact h
          | 4, ⟨A8, c8, h1, h2⟩ => exact ⟨A8, c8, h1, own_ext h2 (fun j _ hj => e2.block j hj)⟩
          | 5, ⟨b5, A8, c8, h1, h2, h3⟩ => exact ⟨b5, A8, c8, h1, fun hb => (h2 hb).ext e2 (h2 hb).lt, own_ext h3 (fun j _ hj => e2.block j hj)⟩
          | 6, ⟨h1, t, h2, h3, h4⟩ => exact ⟨h1, t, h2, own_ext h3 (fun j _ hj => e2.block j hj), h4.ext e2⟩
          | 7, h => exact h
          | (i + 8), h => exact h
        · refine localsT_ord (by decide) (fun bs u W hbs hW hno hd => leaves_val rfl (v := .pointer (some ⟨b, 3, none⟩)) (by go_simp) rfl) ?_
          refine localsT_ord (by decide) (fun bs u W hbs hW hno hd => ?_) ?_
          · have h0 : u 0 = _ := hd 0 (by kernel_rfl)
            have q3 := hW.2.1.bun.cell 3
            simp only [List.getElem?_cons_zero, List.getElem?_cons_succ] at q3
            exact leaves_val rfl (v := vm) (by go_simp) rfl
          refine localsT_ord (by decide) (fun bs u W hbs hW hno hd => ?_) ?_
          · have q0 := hW.2.1.tok.cell 0; have q1 := hW.2.1.tok.cell 1; have q2 := hW.2.1.tok.cell 2
            simp only [List.getElem?_cons_zero, List.getElem?_cons_succ] at q0 q1 q2
            exact leaves_val rfl (v := .agg #[.string (ofL id), .slice A l.length c, .string (ofL tag)]) (by go_simp) rfl
          refine localsT_ord (by decide) (fun bs u W hbs hW hno hd => ?_) ?_
          · have q0 := hW.2.2.1.cell 0; have q1 := hW.2.2.1.cell 1; have q2 := hW.2.2.1.cell 2
            simp only [List.getElem?_cons_zero, List.getElem?_cons_succ] at q0 q1 q2
            exact leaves_val rfl (v := .agg #[.string (ofL d.id), .slice d.A d.l.length d.c, .string (ofL d.tag)]) (by go_simp) rfl
          refine localsT_ord (by decide) (fun bs u W hbs hW hno hd => ?_) ?_
          · have h2 : u 2 = _ := hd 2 (by kernel_rfl)
            have h3 : u 3 = _ := hd 3 (by kernel_rfl)
            exact leaves_call rfl (f := 27) (args := #[.agg #[.string (ofL id), .slice A l.length c, .string (ofL tag)], .agg #[.string (ofL d.id), .slice d.A d.l.length d.c, .string (ofL d.tag)]]) (by go_simp) ((cB.out W (hT.ext hW.2.1.ext) (rd_at DL.out hW.2.1.ext)).mono (fun e9 W9 ⟨v9, h1, h2, h3⟩ => by obtain ⟨A8, c8, rfl⟩ := own_slice h2; exact ⟨_, h1, h3, A8, c8, rfl, own_more h2 hW.1⟩))
          refine localsT_ord (by decide) (fun bs u W hbs hW hno hd => ?_) ?_
          · have h4 := hd 4 (by kernel_rfl)
            obtain ⟨A8, c8, e4, h4⟩ := h4
            exact leaves_new rfl (v := .slice (some ⟨W.heap.size, 0, none⟩) 1 1) (w' := W.alloc (.cells #[.string (ofL d.id), .slice A8 d.l.length c8, .string (ofL T)] 33)) (by go_simp) ((Ext.rfl' W).al _) ⟨_, A8, c8, rfl, fun _ => Arr.new W _ [.string (ofL d.id), .slice A8 d.l.length c8, .string (ofL T)], own_ext h4 (fun j _ hj => ((Ext.rfl' W).al _).block j hj)⟩
          refine localsT_turn 0 rfl (fun q hq => cs_inj (cs := [6]) (by decide) 0 q _ rfl hq) (fun bs u W hbs hb0 hW hd hcs => ?_) ?_
          · have h1 : u 1 = _ := hd 1 (by kernel_rfl)
            have h5 := hd 5 (by kernel_rfl)
            have hset : (bs.set 0 true)[0]? = some true := List.getElem?_set_self (by rw [hbs]; decide)
            have own1 := hW.2.2.2 hb0
            obtain ⟨b5, A8, c8, e5, hc5, h5⟩ := h5
            have hA5 := hc5 hb0
            refine ⟨rfl, fun K Q hK => wp_app (ad := ⟨b5, 0, none⟩) (c := 1) (news := toksCells [⟨d.id, T, A8, c8, d.l⟩]) Tryz.elemTok _ _ rfl own1 1 (by go_simp) (by go_simp) rfl ?_ (oneCell_toks _) (by omega) (by omega) hW.1 (fun v' w' own2 hg2 => hK v' w' ?_ ⟨hset, ⟨d.id, T, A8, c8, d.l⟩, rfl, own_eq own2 (toksCells_append _ _).symm rfl, own_kept_type h5 own1 (by decide) hg2⟩ ?_)⟩
            · intro j y hy
              rw [WideShapes.add_plain, hA5.cell]
              rw [Nat.zero_add]; exact hy
            · exact ⟨by have := hg2.size; have := hW.1; omega, hW.2.1.kept own1 hg2, arr_kept hW.2.2.1 hg2 (fun r e => by have := hrb r e; omega), fun hb => by rw [hset] at hb; cases hb⟩
            · intro k h
              match k, h with
              | 0, h => exact h
              | 1, h => exact h
              | 2, h => exact h
              | 3, h => exact h
              | 4, ⟨A8, c8, h1, h2⟩ => exact ⟨A8, c8, h1, own_kept_type h2 own1 (by decide) hg2⟩
              | 5, ⟨b5, A8, c8, h1, h2, h3⟩ => exact ⟨b5, A8, c8, h1, (fun hb => (by rw [hset] at hb; cases hb)), own_kept_type h3 own1 (by decide) hg2⟩
              | 6, h => rw [hb0] at h; cases h.1
              | 7, h => exact h
              | (k + 8), h => exact h
          exact localsT_ord (by decide) (fun bs u W hbs hW hno hd => leaves_val rfl (v := .pointer (some ⟨b, 3, none⟩)) (by go_simp) rfl) localsT_nil
        · intro u W hW hV
          have h0 : u 0 = _ := hV 0 (by decide)
          have h7 : u 7 = _ := hV 7 (by decide)
          obtain ⟨_, t, hp, hown, hot⟩ := hV 6 (by decide)
          clear hV
          obtain ⟨g6, c6, e6⟩ := ownsRow_succ hown
          rw [e6] at hown
          have S6 := hW.2.1
          have q3 := S6.bun.cell 3
          have z3 := S6.bun.frozen 3
          simp only [List.getElem?_cons_zero, List.getElem?_cons_succ] at q3
          have S7 := S6.set hb (.slice (some ⟨g6, 0, none⟩) (k + 1) c6)
          have R7 := own_set_other (j := 3) hown S6.bun (by decide) (.slice (some ⟨g6, 0, none⟩) (k + 1) c6)
          have O7 := own_set_other (j := 3) hot S6.bun (by decide) (.slice (some ⟨g6, 0, none⟩) (k + 1) c6)
          have S8 : BunFix w (W.setCell ⟨b, 3, none⟩ (.slice (some ⟨g6, 0, none⟩) (k + 1) c6)) b id tag A c l A9 c9 (.slice (some ⟨g6, 0, none⟩) (k + 1) c6) (ts ++ [t]) := ⟨S7.ext, S7.tok, S7.res, S7.bun, fun x hx => (List.mem_append.1 hx).elim (S7.own x) (fun hx => by rw [List.mem_singleton.1 hx]; exact O7), S7.lnk⟩
          clear hW S6 S7 O7 hown hot S5 R5 G5 hrb hs5 cB
          go_simp
          go_wp2
          go_roundw
          case rel => exact ⟨k + 1, _, ts ++ [t], by omega, by go_num, by rw [List.map_append, hts.out, htn.out, List.map_singleton, hp], S8, R7⟩
          case measure => simp [intOf]; omega
      · have ht2 := Kp.mk (show ds.take k = ds from List.take_of_length_le (by omega))
        have hA := hS.bun
        have hR := hS.res
        have hlr := hS.lnk
        have hb1 : w.heap.size + 1 ≠ b := by omega
        have q0 := hA.cell 0; have q1 := hA.cell 1; have q2 := hA.cell 2; have q3 := hA.cell 3
        have y0 := hR.cell 0; have y1 := hR.cell 1; have y2 := hR.cell 2; have y3 := hR.cell 3
        have z0 := hR.frozen 0; have z1 := hR.frozen 1; have z2 := hR.frozen 2; have z3 := hR.frozen 3
        simp only [List.getElem?_cons_zero, List.getElem?_cons_succ] at q0 q1 q2 q3 y0 y1 y2 y3
        obtain ⟨Am, cm, rfl⟩ := own_slice hrow
        go_wp2
        obtain ⟨W', hW'⟩ : ∃ W' : World, W' = (((wr.setCell ⟨w.heap.size + 1, 0, none⟩ (.string (ofL id))).setCell ⟨w.heap.size + 1, 1, none⟩ (.slice A9 l.length c9)).setCell ⟨w.heap.size + 1, 2, none⟩ (.string (ofL tag))).setCell ⟨w.heap.size + 1, 3, none⟩ (.slice Am k cm) := ⟨_, rfl⟩
        rw [← hW']
        have hA' : Arr W' (w.heap.size + 1) 41 [.string (ofL id), .slice A9 l.length c9, .string (ofL tag), .slice Am k cm] := by rw [hW']; exact (((hR.set 0 _).set 1 _).set 2 _).set 3 _
        have lk := own_sets_other hlr hR (by decide) (.string (ofL id)) (.slice A9 l.length c9) (.string (ofL tag)) (.slice Am k cm)
        have rk := own_sets_other hrow hR (by decide) (.string (ofL id)) (.slice A9 l.length c9) (.string (ofL tag)) (.slice Am k cm)
        have ok := fun t ht => own_sets_other (hS.own t ht) hR (by decide) (.string (ofL id)) (.slice A9 l.length c9) (.string (ofL tag)) (.slice Am k cm)
        rw [← hW'] at lk rk
        have hlen : ts.length = k := by have := rk.1; rw [length_toksCells] at this; omega
        have E' : Ext w W' := by rw [hW']; exact (((hS.ext.st (p := ⟨w.heap.size + 1, 0, none⟩) (by show w.heap.size ≤ w.heap.size + 1; omega) _).st (p := ⟨w.heap.size + 1, 1, none⟩) (by show w.heap.size ≤ w.heap.size + 1; omega) _).st (p := ⟨w.heap.size + 1, 2, none⟩) (by show w.heap.size ≤ w.heap.size + 1; omega) _).st (p := ⟨w.heap.size + 1, 3, none⟩) (by show w.heap.size ≤ w.heap.size + 1; omega) _
        refine bodyPost_ret (v := bunV id (.slice A9 l.length c9) tag (.slice Am k cm)) (results_cell_row rfl _ _ (w.heap.size + 1) _ _ _ _ rfl hA' Tryz.underlying41 rfl (by kernel_rfl)) rfl ⟨_, _, ts, rfl, own_links lk rfl, ⟨?_, fun t ht => ?_⟩, ?_, E'⟩
        · rw [hlen]; exact Rd.own rk (by decide)
        · have := ok t ht
          rw [← hW'] at this
          exact own_links this rfl
        · rw [hts.out, ht2.out, List.map_map]; rfl
end Go.Proofs.YtejhiekikblbiaaGreatDoor

namespace Go.Proofs.YtejhiekikblbiaaGreatDoor
open Go.RowKit

/-- While the discharges are bound: the token's box, the result's, the bundle's. -/
structure RbFix (w W : World) (b : Nat) (id tag : List UInt8) (A : Option Addr) (n c : Nat) (vm : Value) : Prop where
  ext : Ext w W
  tok : Arr W w.heap.size 33 [.string (ofL id), .slice A n c, .string (ofL tag)]
  res : Arr W (w.heap.size + 1) 41 [.string ⟨#[]⟩, .slice none 0 0, .string ⟨#[]⟩, .slice none 0 0]
  bun : Arr W b 41 [.string (ofL id), .slice A n c, .string (ofL tag), vm]
theorem RbFix.up {w W W' : World} {b : Nat} {id tag : List UInt8} {A : Option Addr} {n c : Nat} {vm : Value} (h : RbFix w W b id tag A n c vm) (e : Ext W W') : RbFix w W' b id tag A n c vm :=
  ⟨h.ext.tr e, h.tok.ext e h.tok.lt, h.res.ext e h.res.lt, h.bun.ext e h.bun.lt⟩
theorem RbFix.kept {w W W' : World} {b : Nat} {id tag : List UInt8} {A : Option Addr} {n c : Nat} {vm : Value} {v : Value} {m : Nat} {xs : List Value} (h : RbFix w W b id tag A n c vm)
    (hr : W.ownsRow (w.heap.size + 2) 33 3 v m xs) (hg : W.grownBy W' v.ownBlock) : RbFix w W' b id tag A n c vm :=
  ⟨h.ext.own hg hr (by omega), arr_kept h.tok hg (fun r e => by have := (hr.lt r e).1; omega), arr_kept h.res hg (fun r e => by have := (hr.lt r e).1; omega), arr_kept_type h.bun hr (by decide) hg⟩
theorem RbFix.set {w W : World} {b : Nat} {id tag : List UInt8} {A : Option Addr} {n c : Nat} {vm : Value} (h : RbFix w W b id tag A n c vm) (hb : w.heap.size + 2 ≤ b) (u : Value) : RbFix w (W.setCell ⟨b, 3, none⟩ u) b id tag A n c u :=
  ⟨h.ext.st (p := ⟨b, 3, none⟩) (by show w.heap.size ≤ b; omega) u, h.tok.other u (by omega), h.res.other u (by omega), h.bun.set 3 u⟩
theorem bun_boxes3 (w : World) (a b c : Value) : ∃ W, (((w.alloc (.cells #[a, b, c] 33)).alloc (.cells #[.string ⟨#[]⟩, .slice none 0 0, .string ⟨#[]⟩, .slice none 0 0] 41)).alloc (.cells #[a, b, c, .slice none 0 0] 41)) = W ∧ Ext w W ∧ W.heap.size = w.heap.size + 3 ∧
    Arr W w.heap.size 33 [a, b, c] ∧ Arr W (w.heap.size + 1) 41 [.string ⟨#[]⟩, .slice none 0 0, .string ⟨#[]⟩, .slice none 0 0] ∧ Arr W (w.heap.size + 1 + 1) 41 [a, b, c, .slice none 0 0] := by
  refine ⟨_, rfl, (((Ext.rfl' w).al _).al _).al _, by simp, ((Arr.new w 33 [a, b, c]).alloc _).alloc _, ?_, ?_⟩
  · have q := (Arr.new (w.alloc (.cells #[a, b, c] 33)) 41 [.string ⟨#[]⟩, .slice none 0 0, .string ⟨#[]⟩, .slice none 0 0]).alloc (.cells #[a, b, c, .slice none 0 0] 41)
    rw [World.size_alloc] at q
    exact q
  · have q := Arr.new ((w.alloc (.cells #[a, b, c] 33)).alloc (.cells #[.string ⟨#[]⟩, .slice none 0 0, .string ⟨#[]⟩, .slice none 0 0] 41)) 41 [a, b, c, .slice none 0 0]
    rw [World.size_alloc, World.size_alloc] at q
    exact q
def boundA (tag : List UInt8) (d : TokA) : TokA := ⟨d.id, bindL tag d.tag, d.A, d.c, d.l⟩

end Go.Proofs.YtejhiekikblbiaaGreatDoor

namespace Go.Proofs.YtejhiekikblbiaaGreatDoor
open Go.RowKit

theorem plain_eq {a b : TokA} : a.plain = b.plain ↔ a.id = b.id ∧ a.tag = b.tag ∧ a.l = b.l := by
  obtain ⟨i, t, A, c, l⟩ := a
  obtain ⟨j, u, B, d, m⟩ := b
  simp [TokA.plain]
  exact fun _ => And.comm
def SameBun (w : World) (t1 t2 : TokL) (m1 m2 : List TokL) (e : Ending) (w' : World) : Prop := ∃ b, e = .returned (.bool b) ∧ (b = true ↔ t1 = t2 ∧ m1 = m2) ∧ Ext w w'
theorem bun_boxes4 (w : World) (a b c d a' b' c' d' : Value) : ∃ W, ((w.alloc (.cells #[a, b, c, d] 41)).alloc (.cells #[a', b', c', d'] 41)) = W ∧ Ext w W ∧ W.heap.size = w.heap.size + 2 ∧
    Arr W w.heap.size 41 [a, b, c, d] ∧ Arr W (w.heap.size + 1) 41 [a', b', c', d'] := by
  refine ⟨_, rfl, ((Ext.rfl' w).al _).al _, by simp, (Arr.new w 41 [a, b, c, d]).alloc _, ?_⟩
  have q := Arr.new (w.alloc (.cells #[a, b, c, d] 41)) 41 [a', b', c', d']
  rw [World.size_alloc] at q
  exact q
theorem tokL_ext {a b : TokL} (h1 : a.id = b.id) (h2 : a.tag = b.tag) (h3 : a.links = b.links) : a = b := by
  obtain ⟨i, l, t⟩ := a
  obtain ⟨j, m, u⟩ := b
  simp at h1 h2 h3
  simp [h1, h2, h3]

end Go.Proofs.YtejhiekikblbiaaGreatDoor
