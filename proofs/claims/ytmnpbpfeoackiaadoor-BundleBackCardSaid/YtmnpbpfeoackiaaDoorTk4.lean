/-
  Package token: link, Get. Condition: what is left is at most 1000000 bytes.
-/
import Derived.Test.YtmnpbpfeoackiaaDoorTkPlain
import Derived.Test.YtmnpbpfeoackiaaDoorMgG
import Derived.Test.YtmnpbpfeoackiaaDoorInvF
namespace Go.Proofs.YtmnpbpfeoackiaaDoor
open Go.RowKit

theorem u8_ne {b : UInt8} (n : Nat) (h : b ≠ n.toUInt8) (hn : n < 256) : ((b.toNat : Int) == (n : Int)) = false :=
  beq_int_f fun e => h (UInt8.toNat_inj.1 (by rw [UInt8.toNat_ofNat', Nat.mod_eq_of_lt (by omega)]; omega))
theorem arr_only {g k : Nat} {w w' : World} {t : TypeId} {xs : List Value} (h : Only g w w') (hA : Arr w k t xs) (hk : k ≠ g) : Arr w' k t xs := (h.block k hA.lt (by simpa using hk)).trans hA
theorem own_only {g : Nat} {w w' : World} {base : Nat} {e : TypeId} {size n : Nat} {v : Value} {xs : List Value} (h : Only g w w') (ho : w.ownsRow base e size v n xs) (hb : g < base) : w'.ownsRow base e size v n xs :=
  own_ext ho (fun j hj hl => h.block j hl (by simp; omega))

set_option maxRecDepth 100000 in
set_option maxHeartbeats 2000000 in
theorem link_any (g : Nat) (x : RS) (w : World) (h : Rdr w g true x.1 x.2) (hs : x.1.length ≤ 1000000) :
    Calls Tryd.prog 54 #[.pointer (some ⟨g, 0, none⟩)] w fun e w' => e = .returned (linkV (linkGet x).1) ∧ Rdr w' g true (linkGet x).2.1 (linkGet x).2.2 ∧ Only g w w' := by
  obtain ⟨W, hW, E0, A0⟩ : ∃ W, w.alloc (.cells #[.string ⟨#[]⟩, .string ⟨#[]⟩] 74) = W ∧ Ext w W ∧ Arr W w.heap.size 74 [.string ⟨#[]⟩, .string ⟨#[]⟩] := ⟨_, rfl, (Ext.rfl' w).al _, Arr.new w _ [.string ⟨#[]⟩, .string ⟨#[]⟩]⟩
  have hg := h.lt
  have h0 := h.ext E0
  have O0 : Only g w W := Only.of E0
  have HW := Kp.mk hW
  have cB := Kp.mk (byte_any g x W h0 hs)
  have hlen := rByte_len x
  have hlk : linkGet x = if (rByte x).1 = 0 then (((rText (rByte x).2 2048).1, []), (rText (rByte x).2 2048).2)
    else if (rByte x).1 = 1 then (((rText (rByte x).2 4144).1, (rText (rText (rByte x).2 4144).2 4144).1), if (rText (rText (rByte x).2 4144).2 4144).1 = [] then rFail (rText (rText (rByte x).2 4144).2 4144).2 2 else (rText (rText (rByte x).2 4144).2 4144).2)
    else (([], []), rFail (rByte x).2 2) := rfl
  obtain ⟨⟨b, y⟩, hb⟩ : ∃ b, rByte x = b := ⟨_, rfl⟩
  rw [hb] at hlk cB hlen
  dsimp only at hlk cB hlen
  obtain ⟨R, hR⟩ : ∃ R, linkGet x = R := ⟨_, rfl⟩
  rw [hR] at hlk ⊢
  have hyl : y.1.length ≤ 1000000 := by omega
  clear hW h h0 hb hR hlen
  by_cases hb0 : b = 0
  · subst hb0
    rw [if_pos rfl] at hlk
    have d1 : (((0 : UInt8).toNat : Int) == 0) = true := rfl
    go_enter Tryd.func54, Tryd.ntmps54
    go_wp2_with fail
    rw [HW.out]
    refine cB.out.mono ?_
    rintro e w1 ⟨rfl, R1, O1⟩
    have A1 := arr_only O1 A0 (by omega)
    have F1 := O0.tr O1
    clear A0 O1
    go_wp2_with fail
    refine (text_any g y 2048 w1 R1 hyl (by omega)).mono ?_
    rintro e w2 ⟨rfl, R2, O2⟩
    have A2 := arr_only O2 A1 (by omega)
    have F2 := F1.tr O2
    have q0 := A2.cell 0; have q1 := A2.cell 1; have z0 := A2.frozen 0; have z1 := A2.frozen 1
    simp only [List.getElem?_cons_zero, List.getElem?_cons_succ] at q0 q1
    obtain ⟨T, hT⟩ : ∃ T, rText y 2048 = T := ⟨_, rfl⟩
    rw [hT] at hlk R2
    subst hlk
    have A3 := (A2.set 0 (.string (ofL T.1))).set 1 (.string ⟨#[]⟩)
    have R3 := (R2.stNew (p := ⟨w.heap.size, 0, none⟩) (by show g ≠ w.heap.size; omega) (.string (ofL T.1))).stNew (p := ⟨w.heap.size, 1, none⟩) (by show g ≠ w.heap.size; omega) (.string ⟨#[]⟩)
    have O3 := (F2.stNew (p := ⟨w.heap.size, 0, none⟩) (Nat.le_refl _) (.string (ofL T.1))).stNew (p := ⟨w.heap.size, 1, none⟩) (Nat.le_refl _) (.string ⟨#[]⟩)
    clear A1 O2 F1 R1 A2 R2 F2 HW cB
    rw [hT]
    go_wp2
    exact bodyPost_ret (results_cell_row rfl _ _ w.heap.size _ _ _ _ rfl A3 Tryd.underlying74 rfl (by kernel_rfl)) rfl ⟨rfl, R3, O3⟩
  · rw [if_neg hb0] at hlk
    have hbn : ¬ (b.toNat : Int) = 0 := fun h => hb0 (by apply UInt8.toNat_inj.1; simpa using h)
    have d1 : ((b.toNat : Int) == 0) = false := beq_int_f hbn
    by_cases hb1 : b = 1
    · subst hb1
      rw [if_pos rfl] at hlk
      clear hb0 hbn d1
      have d1 : (((1 : UInt8).toNat : Int) == 0) = false := rfl
      have d2 : (((1 : UInt8).toNat : Int) == 1) = true := rfl
      go_enter Tryd.func54, Tryd.ntmps54
      go_wp2_with fail
      rw [HW.out]
      refine cB.out.mono ?_
      rintro e w1 ⟨rfl, R1, O1⟩
      have A1 := arr_only O1 A0 (by omega)
      have F1 := O0.tr O1
      clear A0 O1
      go_wp2_with fail
      refine (text_any g y 4144 w1 R1 hyl (by omega)).mono ?_
      rintro e w2 ⟨rfl, R2, O2⟩
      have A2 := arr_only O2 A1 (by omega)
      have F2 := F1.tr O2
      have hl2 := rText_len y 4144
      obtain ⟨T, hT⟩ : ∃ T, rText y 4144 = T := ⟨_, rfl⟩
      rw [hT] at hlk R2 hl2
      obtain ⟨T1, T2⟩ := T
      dsimp only at hlk R2 hl2
      have HT := Kp.mk hT
      clear A1 O2 F1 R1 hT HW cB
      obtain ⟨V, hV, EV, BV⟩ : ∃ V, w2.alloc (.cells #[.string (ofL T1), .string ⟨#[]⟩] 74) = V ∧ Ext w2 V ∧ Arr V w2.heap.size 74 [.string (ofL T1), .string ⟨#[]⟩] := ⟨_, rfl, (Ext.rfl' w2).al _, Arr.new w2 _ [.string (ofL T1), .string ⟨#[]⟩]⟩
      have hw2 := A2.lt
      have hg2 := R2.lt
      have A3 := A2.ext EV A2.lt
      have R3 := R2.ext EV
      have F3 := F2.ext EV
      have HV := Kp.mk hV
      obtain ⟨lb, hlb⟩ : ∃ lb, w2.heap.size = lb := ⟨_, rfl⟩
      rw [hlb] at BV hw2 hg2
      have HLB := Kp.mk hlb
      clear A2 R2 F2 EV hV hlb
      rw [HT.out]
      go_upto_region 7 with fail
      rw [HV.out, HLB.out]
      clear HV HLB
      go_wp2_with fail
      refine (text_any g T2 4144 V R3 (by omega) (by omega)).mono ?_
      rintro e w4 ⟨rfl, R4, O4⟩
      have A4 := arr_only O4 A3 (by omega)
      have B4 := arr_only O4 BV (by omega)
      have F4 := F3.tr O4
      obtain ⟨U, hU⟩ : ∃ U, rText T2 4144 = U := ⟨_, rfl⟩
      rw [hU] at hlk R4
      obtain ⟨U1, U2⟩ := U
      dsimp only at hlk R4
      have HU := Kp.mk hU
      rw [HU.out]
      have q0 := B4.cell 0; have q1 := B4.cell 1; have z0 := B4.frozen 0; have z1 := B4.frozen 1
      simp only [List.getElem?_cons_zero, List.getElem?_cons_succ] at q0 q1
      have B5 := B4.set 1 (.string (ofL U1))
      have A5 := A4.other (g' := lb) (j := 1) (.string (ofL U1)) (by omega)
      have R5 := R4.stNew (p := ⟨lb, 1, none⟩) (by show g ≠ lb; omega) (.string (ofL U1))
      have F5 := F4.stNew (p := ⟨lb, 1, none⟩) (by show w.heap.size ≤ lb; omega) (.string (ofL U1))
      obtain ⟨W5, hW5⟩ : ∃ W5, w4.setCell ⟨lb, 1, none⟩ (.string (ofL U1)) = W5 := ⟨_, rfl⟩
      rw [hW5] at B5 A5 R5 F5
      have HW5 := Kp.mk hW5
      clear A3 BV F3 R3 A4 B4 R4 F4 O4 hU hW5
      go_upto_region 8 with fail
      rw [HW5.out]
      clear HW5 q0 q1 z0 z1
      have q0 := B5.cell 0; have q1 := B5.cell 1
      simp only [List.getElem?_cons_zero, List.getElem?_cons_succ, List.set] at q0 q1
      by_cases hx : U1 = []
      · subst hx
        rw [if_pos rfl] at hlk
        go_wp2_with fail
        refine (fail_any g U2 2 W5 R5).mono ?_
        rintro e w6 ⟨rfl, R6, O6⟩
        have A6 := arr_only O6 A5 (by omega)
        have B6 := arr_only O6 B5 (by omega)
        have F6 := F5.tr O6
        clear q0 q1 A5 B5 F5 R5 O6
        have q0 := B6.cell 0; have q1 := B6.cell 1
        have p0 := A6.cell 0; have p1 := A6.cell 1; have z0 := A6.frozen 0; have z1 := A6.frozen 1
        simp only [List.getElem?_cons_zero, List.getElem?_cons_succ, List.set] at q0 q1 p0 p1
        have A7 := (A6.set 0 (.string (ofL T1))).set 1 (.string (ofL []))
        have R7 := (R6.stNew (p := ⟨w.heap.size, 0, none⟩) (by show g ≠ w.heap.size; omega) (.string (ofL T1))).stNew (p := ⟨w.heap.size, 1, none⟩) (by show g ≠ w.heap.size; omega) (.string (ofL []))
        have F7 := (F6.stNew (p := ⟨w.heap.size, 0, none⟩) (Nat.le_refl _) (.string (ofL T1))).stNew (p := ⟨w.heap.size, 1, none⟩) (Nat.le_refl _) (.string (ofL []))
        clear A6 B6 R6 F6
        subst hlk
        go_wp2
        exact bodyPost_ret (results_cell_row rfl _ _ w.heap.size _ _ _ _ rfl A7 Tryd.underlying74 rfl (by kernel_rfl)) rfl ⟨rfl, R7, F7⟩
      · rw [if_neg hx] at hlk
        have d4 : U1.isEmpty = false := isEmpty_ne hx
        have p0 := A5.cell 0; have p1 := A5.cell 1; have z0 := A5.frozen 0; have z1 := A5.frozen 1
        simp only [List.getElem?_cons_zero, List.getElem?_cons_succ] at p0 p1
        have A7 := (A5.set 0 (.string (ofL T1))).set 1 (.string (ofL U1))
        have R7 := (R5.stNew (p := ⟨w.heap.size, 0, none⟩) (by show g ≠ w.heap.size; omega) (.string (ofL T1))).stNew (p := ⟨w.heap.size, 1, none⟩) (by show g ≠ w.heap.size; omega) (.string (ofL U1))
        have F7 := (F5.stNew (p := ⟨w.heap.size, 0, none⟩) (Nat.le_refl _) (.string (ofL T1))).stNew (p := ⟨w.heap.size, 1, none⟩) (Nat.le_refl _) (.string (ofL U1))
        clear A5 B5 R5 F5 hx
        subst hlk
        go_wp2
        exact bodyPost_ret (results_cell_row rfl _ _ w.heap.size _ _ _ _ rfl A7 Tryd.underlying74 rfl (by kernel_rfl)) rfl ⟨rfl, R7, F7⟩
    · rw [if_neg hb1] at hlk
      have d2 : ((b.toNat : Int) == 1) = false := u8_ne 1 hb1 (by decide)
      clear hb0 hb1 hbn
      go_enter Tryd.func54, Tryd.ntmps54
      go_wp2_with fail
      rw [HW.out]
      refine cB.out.mono ?_
      rintro e w1 ⟨rfl, R1, O1⟩
      have A1 := arr_only O1 A0 (by omega)
      have F1 := O0.tr O1
      clear A0 O1
      go_wp2_with fail
      refine (fail_any g y 2 w1 R1).mono ?_
      rintro e w2 ⟨rfl, R2, O2⟩
      have A2 := arr_only O2 A1 (by omega)
      have F2 := F1.tr O2
      have q0 := A2.cell 0; have q1 := A2.cell 1; have z0 := A2.frozen 0; have z1 := A2.frozen 1
      simp only [List.getElem?_cons_zero, List.getElem?_cons_succ] at q0 q1
      subst hlk
      have A3 := (A2.set 0 (.string ⟨#[]⟩)).set 1 (.string ⟨#[]⟩)
      have R3 := (R2.stNew (p := ⟨w.heap.size, 0, none⟩) (by show g ≠ w.heap.size; omega) (.string ⟨#[]⟩)).stNew (p := ⟨w.heap.size, 1, none⟩) (by show g ≠ w.heap.size; omega) (.string ⟨#[]⟩)
      have O3 := (F2.stNew (p := ⟨w.heap.size, 0, none⟩) (Nat.le_refl _) (.string ⟨#[]⟩)).stNew (p := ⟨w.heap.size, 1, none⟩) (Nat.le_refl _) (.string ⟨#[]⟩)
      clear A1 O2 F1 R1 A2 R2 F2 HW cB
      go_wp2
      exact bodyPost_ret (results_cell_row rfl _ _ w.heap.size _ _ _ _ rfl A3 Tryd.underlying74 rfl (by kernel_rfl)) rfl ⟨rfl, R3, O3⟩

theorem turn_call {P : Program} {o : Oper} {a : Act} {w : World} {K : Act → World → Prop} {Q : Exit → Act → World → Prop} {f : FuncId} {args : Array Value} {R : Value → World → Prop} (hr : (execOp a.eval o).run P w = .ok (.enter f args) w)
    (hc : Calls P f args w fun e w' => ∃ v, e = .returned v ∧ R v w') (h : ∀ v w', R v w' → K (a.put o.dst v) w') : o.wp P a w K Q := by
  unfold Oper.wp
  rw [hr]
  refine hc.mono ?_
  rintro e w' ⟨v, rfl, hv⟩
  exact h v w' hv
set_option maxRecDepth 100000 in
theorem Tryd.elemLnk : Elem Tryd.prog 22 74 (.agg #[.string ⟨#[]⟩, .string ⟨#[]⟩]) 2 32 :=
  ⟨Tryd.underlying22, info_parts (by kernel_rfl), rfl, by decide⟩
theorem oneCell_lnk (a b : List UInt8) : ∀ u ∈ [Value.string (ofL a), Value.string (ofL b)], u.oneCell' = true := by
  intro u hu
  simp at hu
  rcases hu with rfl | rfl <;> rfl
/-- While links are read: the result's block, the reader's, the token's. -/
structure TgSt (w W : World) (g tb : Nat) (id : List UInt8) (v : Value) (l : List LinkL) (y : RS) : Prop where
  ext : Ext w W
  res : Arr W w.heap.size 24 [.string ⟨#[]⟩, .slice none 0 0, .string ⟨#[]⟩]
  rdr : Rdr W g true y.1 y.2
  box : Arr W tb 24 [.string (ofL id), v, .string ⟨#[]⟩]
  own : W.ownsRow (tb + 1) 74 2 v l.length (linkCells l)
section
variable {w W W' : World} {g tb : Nat} {id : List UInt8} {v : Value} {l : List LinkL} {y : RS}
theorem TgSt.up (h : TgSt w W g tb id v l y) (e : Ext W W') : TgSt w W' g tb id v l y :=
  ⟨h.ext.tr e, h.res.ext e h.res.lt, h.rdr.ext e, h.box.ext e h.box.lt, own_ext h.own (fun j _ hj => e.block j hj)⟩
theorem TgSt.read (h : TgSt w W g tb id v l y) (hg : w.heap.size < g) (ht : g < tb) {y' : RS} (O : Only g W W') (r : Rdr W' g true y'.1 y'.2) : TgSt w W' g tb id v l y' :=
  ⟨O.toExt h.ext (by omega), arr_only O h.res (by omega), r, arr_only O h.box (by omega), own_only O h.own (by omega)⟩
end
theorem TgSt.grow {w W W' : World} {g tb : Nat} {id : List UInt8} {v : Value} {l : List LinkL} {y : RS} (h : TgSt w W g tb id v l y) (hg : w.heap.size < g) (ht : g < tb) (hg2 : W.grownBy W' v.ownBlock) :
    Ext w W' ∧ Arr W' w.heap.size 24 [.string ⟨#[]⟩, .slice none 0 0, .string ⟨#[]⟩] ∧ Rdr W' g true y.1 y.2 ∧ Arr W' tb 24 [.string (ofL id), v, .string ⟨#[]⟩] := by
  have hne : ∀ k, k < tb + 1 → v.ownBlock ≠ some k := fun k hk e => by have := (h.own.lt k e).1; omega
  exact ⟨h.ext.own hg2 h.own (by omega), (hg2.block _ h.res.lt (fun e => hne _ (by omega) e.symm)).trans h.res, (hg2.block _ h.rdr.lt (fun e => hne _ (by omega) e.symm)).trans h.rdr, (hg2.block _ h.box.lt (fun e => hne _ (by omega) e.symm)).trans h.box⟩
theorem linksGet_step (k : Nat) (x : RS) : linksGet (k + 1) x = ((linksGet k x).1 ++ [(linkGet (linksGet k x).2).1], (linkGet (linksGet k x).2).2) := rfl

/-- A token is returned, and what was wrong. -/
def TokGot (w : World) (r : TokL × Int) (e : Ending) (w' : World) : Prop := ∃ v, e = .returned (.tuple #[tokV r.1.id v r.1.tag, .int .i64 r.2]) ∧ w'.ownsRow w.heap.size 74 2 v r.1.links.length (linkCells r.1.links) ∧ Ext w w'

theorem ret_got {fn : Func} {p q : Tmp} {tmps : Array Value} {w W : World} {v : Value} {r : TokL × Int} (h : fn.results = #[.cell p 24, .tmp q]) (hp : tmps.getD p undef = .pointer (some ⟨w.heap.size, 0, none⟩)) (hq : tmps.getD q undef = .int .i64 r.2)
    (hA : Arr W w.heap.size 24 [.string (ofL r.1.id), v, .string (ofL r.1.tag)]) (E : Ext w W) (own : W.ownsRow w.heap.size 74 2 v r.1.links.length (linkCells r.1.links)) :
    bodyPost Tryd.prog fn (TokGot w r) .ret { tmps := tmps, defers := [] } W :=
  bodyPost_ret (v := .tuple #[.agg #[.string (ofL r.1.id), v, .string (ofL r.1.tag)], .int .i64 r.2]) (results_cell_slot h _ _ w.heap.size _ _ _ _ _ hp hq hA Tryd.underlying24 rfl (by kernel_rfl)) rfl ⟨v, rfl, own, E⟩
theorem arr_put3 {W : World} {g : Nat} {t : TypeId} {a b c : Value} (hA : Arr W g t [a, b, c]) (x y z : Value) : Arr (((W.setCell ⟨g, 0, none⟩ x).setCell ⟨g, 1, none⟩ y).setCell ⟨g, 2, none⟩ z) g t [x, y, z] := ((hA.set 0 x).set 1 y).set 2 z
theorem ext_put3 {w W : World} (E : Ext w W) {g : Nat} (hg : w.heap.size ≤ g) (x y z : Value) : Ext w (((W.setCell ⟨g, 0, none⟩ x).setCell ⟨g, 1, none⟩ y).setCell ⟨g, 2, none⟩ z) := ((E.st (p := ⟨g, 0, none⟩) hg x).st (p := ⟨g, 1, none⟩) hg y).st (p := ⟨g, 2, none⟩) hg z
/-- What is left is the text's end. -/
theorem get_rest {s idl : List UInt8} {y0 y1 : RS} {nn : Nat} (h0 : rText (s, 0) 4144 = (idl, y0)) (h1 : rNum y0 64 = (nn, y1)) (h : (linksGet nn y1).2.2 = 0) : s.drop (s.length - (linksGet nn y1).2.1.length) = (linksGet nn y1).2.1 := by
  obtain ⟨a, b, _⟩ := linksGet_good nn y1 h
  have g1 : (rNum y0 64).2.2 = 0 := by rw [h1]; exact a
  obtain ⟨a2, b2, _, _⟩ := rNum_good g1
  have g2 : (rText (s, 0) ((4144 : Nat) : Int)).2.2 = 0 := by
    show (rText (s, 0) 4144).2.2 = 0
    rw [h0]; exact a2
  obtain ⟨_, b3, _⟩ := rText_good g2
  have e0 : rText (s, 0) ((4144 : Nat) : Int) = (idl, y0) := h0
  rw [e0] at b3
  rw [h1] at b2
  dsimp only at b2 b3
  generalize linksGet nn y1 = L at b
  have hs : s = (fText idl ++ (vput nn ++ linksPut L.1)) ++ L.2.1 := by rw [b3, b2, b]; simp
  have hl : s.length - L.2.1.length = (fText idl ++ (vput nn ++ linksPut L.1)).length := by
    have := congrArg List.length hs
    rw [List.length_append] at this
    omega
  rw [hl]
  conv => lhs; rw [hs]
  rw [List.drop_left]

set_option maxRecDepth 100000 in
set_option maxHeartbeats 4000000 in
theorem tkget_any (s : List UInt8) (w : World) (hs : s.length ≤ 1000000) : Calls Tryd.prog 17 #[.string (ofL s)] w (TokGot w (tokGetR s)) := by
  obtain ⟨W, hW, E0, A0⟩ : ∃ W, w.alloc (.cells #[.string ⟨#[]⟩, .slice none 0 0, .string ⟨#[]⟩] 24) = W ∧ Ext w W ∧ Arr W w.heap.size 24 [.string ⟨#[]⟩, .slice none 0 0, .string ⟨#[]⟩] := ⟨_, rfl, (Ext.rfl' w).al _, Arr.new w _ [.string ⟨#[]⟩, .slice none 0 0, .string ⟨#[]⟩]⟩
  have HW := Kp.mk hW
  have hW1 : W.heap.size = w.heap.size + 1 := by rw [← hW]; simp
  have cN := new_any (ofL s) W
  rw [toL_ofL, hW1] at cN
  replace cN := Kp.mk cN
  obtain ⟨R, hR⟩ : ∃ R, tokGetR s = R := ⟨_, rfl⟩
  rw [hR]
  have HR := Kp.mk hR
  clear hR
  obtain ⟨X0, hX0⟩ : ∃ X, rText (s, 0) 4144 = X := ⟨_, rfl⟩
  obtain ⟨idl, y0⟩ := X0
  obtain ⟨N0, hN0⟩ : ∃ N, rNum y0 64 = N := ⟨_, rfl⟩
  obtain ⟨nn, y1⟩ := N0
  have hl0 := rText_len (s, 0) 4144
  have hl1 := rNum_len y0 64
  have hn64 := rNum_le y0 64
  rw [hX0] at hl0
  rw [hN0] at hl1 hn64
  dsimp only at hl0 hl1 hn64
  have hHd := Kp.mk (show tokHeadGet s = (idl, (linksGet nn y1).1, (linksGet nn y1).2) by unfold tokHeadGet; rw [hX0]; dsimp only; rw [hN0])
  have HX0 := Kp.mk hX0; have HN0 := Kp.mk hN0
  have hLL := Kp.mk (fun k => linksGet_len k y1)
  clear hW hX0 hN0 hW1
  go_enter Tryd.func17, Tryd.ntmps17
  go_wp2_with fail
  rw [HW.out]
  refine cN.out.mono ?_
  rintro e w1 ⟨rfl, R1, E1⟩
  have A1 := A0.ext E1 A0.lt
  have F1 := E0.tr E1
  clear HW A0 E0 E1 cN
  go_wp2_with fail
  refine (text_any (w.heap.size + 1) (s, 0) 4144 w1 R1 hs (by omega)).mono ?_
  rw [HX0.out]
  rintro e w2 ⟨rfl, R2, O2⟩
  have A2 := arr_only O2 A1 (by omega)
  have F2 := O2.toExt F1 (by omega)
  dsimp only at R2
  clear R1 A1 F1 O2
  obtain ⟨V, hV, EV, BV⟩ : ∃ V, w2.alloc (.cells #[.string (ofL idl), .slice none 0 0, .string ⟨#[]⟩] 24) = V ∧ Ext w2 V ∧ Arr V w2.heap.size 24 [.string (ofL idl), .slice none 0 0, .string ⟨#[]⟩] := ⟨_, rfl, (Ext.rfl' w2).al _, Arr.new w2 _ [.string (ofL idl), .slice none 0 0, .string ⟨#[]⟩]⟩
  have hgt : w.heap.size + 1 < w2.heap.size := R2.lt
  have hsV : V.heap.size = w2.heap.size + 1 := by rw [← hV]; simp
  have S3 : TgSt w V (w.heap.size + 1) w2.heap.size idl (.slice none 0 0) [] y0 := ⟨F2.tr EV, A2.ext EV A2.lt, R2.ext EV, BV, World.ownsRow_nil _ _ _ _⟩
  have HV := Kp.mk hV
  obtain ⟨tb, htb⟩ : ∃ tb, w2.heap.size = tb := ⟨_, rfl⟩
  rw [htb] at S3 hgt
  have HTB := Kp.mk htb
  clear hV EV BV A2 R2 F2 htb hsV
  go_upto_region 3 with fail
  rw [HV.out, HTB.out]
  clear HV HTB
  go_wp2_with fail
  refine (num_any (w.heap.size + 1) y0 64 V S3.rdr (by omega)).mono ?_
  rw [HN0.out]
  rintro e w3 ⟨rfl, R3, O3⟩
  have S4 := S3.read (by omega) hgt O3 R3
  have hwr : IntKind.i64.wrap (nn : Int) = (nn : Int) := IntWalk.i64_in _ (by omega)
  clear S3 R3 O3
  go_wp2_with fail
  go_loopw [15] (fun i wr => ∃ (k : Nat) (A : Option Addr) (c : Nat), k ≤ nn ∧ i = .int .i64 k ∧ TgSt w wr (w.heap.size + 1) tb idl (.slice A k c) (linksGet k y1).1 (linksGet k y1).2) (fun i _ => nn - (intOf i).toNat)
  case atStart => exact ⟨0, none, 0, by omega, rfl, S4⟩
  case round =>
    clear S4
    obtain ⟨k, A, c, hk, rfl, hS⟩ := hrel
    have hlk := hLL.out k
    by_cases hlt : k < nn
    · have hlen := length_linksGet k y1
      obtain ⟨⟨l, y⟩, hly⟩ : ∃ ly, linksGet k y1 = ly := ⟨_, rfl⟩
      have hnx := Kp.mk (linksGet_step k y1)
      rw [hly] at hS hlen hlk hnx
      dsimp only at hS hlen hlk
      obtain ⟨⟨⟨xa, xb⟩, y'⟩, hx⟩ : ∃ X, linkGet y = X := ⟨_, rfl⟩
      have hnx2 := hnx.out
      dsimp only at hnx2
      rw [hx] at hnx2
      dsimp only at hnx2
      have hnx := Kp.mk hnx2
      have HX := Kp.mk hx
      have hylen : y.1.length ≤ 1000000 := by omega
      clear hx hly hnx2 hlk
      subst hlen
      go_upto_region 5 with fail
      refine wp_region_stages [3] (fun bs W => (∃ y2, TgSt w W (w.heap.size + 1) tb idl (.slice A l.length c) l y2) ∧ (bs[0]? = some false → Rdr W (w.heap.size + 1) true y.1 y.2) ∧ (bs[0]? = some true → Rdr W (w.heap.size + 1) true y'.1 y'.2)) (fun bs i v W => match i with
        | 0 => v = .pointer (some ⟨tb, 1, none⟩)
        | 1 => v = .slice A l.length c
        | 2 => v = .pointer (some ⟨w.heap.size + 1, 0, none⟩)
        | 3 => bs[0]? = some true ∧ v = .agg #[.string (ofL xa), .string (ofL xb)]
        | 4 => bs[0]? = some true ∧ ∃ b, v = .slice (some ⟨b, 0, none⟩) 1 1 ∧ Arr W b 74 [.string (ofL xa), .string (ofL xb)]
        | _ => True) 5 (cs_inj (by decide)) (by decide) (by kernel_rfl) (by kernel_rfl) (by kernel_rfl) (by decide) (by kernel_rfl) (by kernel_rfl) (by kernel_rfl) (⟨⟨y, hS.up (Ext.rfl' _).dr⟩, fun _ => hS.rdr.ext (Ext.rfl' _).dr, fun h => absurd h (by decide)⟩) (fun bs W1 W2 ⟨⟨y2, a⟩, b, d⟩ e => ⟨⟨y2, a.up e⟩, fun h => (b h).ext e, fun h => (d h).ext e⟩) ?_ ?_ ?_
      · intro bs i v W1 W2 e1 e2 h
        match i, h with
        | 0, h => exact h
        | 1, h => exact h
        | 2, h => exact h
        | 3, h => exact h
        | 4, ⟨h1, b, h2, h3⟩ => exact ⟨h1, b, h2, h3.ext e2 h3.lt⟩
        | (i + 5), h => exact h
      · refine localsT_ord (by decide) (fun bs u W hbs hW hno hd => leaves_val rfl (v := .pointer (some ⟨tb, 1, none⟩)) (by go_simp) rfl) ?_
        refine localsT_ord (by decide) (fun bs u W hbs hW hno hd => ?_) ?_
        · have h0 : u 0 = _ := hd 0 (by kernel_rfl)
          obtain ⟨y2, hT⟩ := hW.1
          have q1 := hT.box.cell 1
          simp only [List.getElem?_cons_zero, List.getElem?_cons_succ] at q1
          exact leaves_val rfl (v := .slice A l.length c) (by go_simp) rfl
        refine localsT_ord (by decide) (fun bs u W hbs hW hno hd => leaves_val rfl (v := .pointer (some ⟨w.heap.size + 1, 0, none⟩)) (by go_simp) rfl) ?_
        refine localsT_turn 0 rfl (fun q hq => cs_inj (cs := [3]) (by decide) 0 q _ rfl hq) (fun bs u W hbs hb0 hW hd hcs => ?_) ?_
        · have h2 : u 2 = _ := hd 2 (by kernel_rfl)
          have hset : (bs.set 0 true)[0]? = some true := List.getElem?_set_self (by rw [hbs]; decide)
          obtain ⟨⟨y2, hT⟩, hr, _⟩ := hW
          have cL := link_any (w.heap.size + 1) y W (hr hb0) hylen
          rw [HX.out] at cL
          refine ⟨rfl, fun K Q hK => turn_call (f := 54) (args := #[.pointer (some ⟨w.heap.size + 1, 0, none⟩)]) (R := fun v W9 => v = .agg #[.string (ofL xa), .string (ofL xb)] ∧ Rdr W9 (w.heap.size + 1) true y'.1 y'.2 ∧ Only (w.heap.size + 1) W W9) (by go_simp) (cL.mono (fun e9 W9 h9 => ⟨_, h9.1, rfl, h9.2⟩)) (fun v9 W9 ⟨h1, h3, h4⟩ => hK v9 W9 ⟨⟨y', hT.read (by omega) hgt h4 h3⟩, fun h => (by rw [hset] at h; cases h), fun _ => h3⟩ ⟨hset, h1⟩ ?_)⟩
          · intro k h
            match k, h with
            | 0, h => exact h
            | 1, h => exact h
            | 2, h => exact h
            | 3, h => rw [hb0] at h; cases h.1
            | 4, h => rw [hb0] at h; cases h.1
            | (k + 5), h => exact h
        refine localsT_ord (by decide) (fun bs u W hbs hW hno hd => ?_) localsT_nil
        · have h3 := hd 3 (by kernel_rfl)
          obtain ⟨hb3, h3⟩ := h3
          exact leaves_new rfl (v := .slice (some ⟨W.heap.size, 0, none⟩) 1 1) (w' := W.alloc (.cells #[.string (ofL xa), .string (ofL xb)] 74)) (by go_simp) ((Ext.rfl' W).al _) ⟨hb3, _, rfl, Arr.new W _ [.string (ofL xa), .string (ofL xb)]⟩
      · intro u W5 hJ hV
        obtain ⟨⟨y2, hT⟩, _, hr⟩ := hJ
        have hR := hr rfl
        have h1 : u 1 = _ := hV 1 (by decide)
        obtain ⟨_, b4, h4, hA4⟩ := hV 4 (by decide)
        have S5 : TgSt w W5 (w.heap.size + 1) tb idl (.slice A l.length c) l y' := ⟨hT.ext, hT.res, hR, hT.box, hT.own⟩
        have hs5 := S5.box.lt
        have own5 := S5.own
        clear hT hr hR hV hS
        refine wpl_app_at Tryd.elemLnk rfl _ _ rfl own5 (ad := ⟨b4, 0, none⟩) (c := 1) (news := [.string (ofL xa), .string (ofL xb)]) 1 (by go_simp) (by go_simp) rfl ?_ (oneCell_lnk xa xb) (by omega) (by omega) (by omega) ?_
        · intro j u8 hu
          rw [WideShapes.add_plain, hA4.cell, Nat.zero_add]
          exact hu
        · intro v6 w6 own6 hg6
          have S6 := S5.grow (by omega) hgt hg6
          obtain ⟨A6, c6, hv6⟩ := own_slice own6
          subst hv6
          have q1 := S6.2.2.2.cell 1; have z1 := S6.2.2.2.frozen 1
          simp only [List.getElem?_cons_zero, List.getElem?_cons_succ] at q1
          have hfin := Kp.mk (show ∀ W, Ext w W → Arr W w.heap.size 24 [.string ⟨#[]⟩, .slice none 0 0, .string ⟨#[]⟩] → Rdr W (w.heap.size + 1) true y'.1 y'.2 → Arr W tb 24 [.string (ofL idl), .slice A6 (l.length + 1) c6, .string ⟨#[]⟩] → W.ownsRow (tb + 1) 74 2 (.slice A6 (l.length + 1) c6) (l.length + 1) (linkCells l ++ [.string (ofL xa), .string (ofL xb)]) →
            TgSt w W (w.heap.size + 1) tb idl (.slice A6 (l.length + 1) c6) (linksGet (l.length + 1) y1).1 (linksGet (l.length + 1) y1).2 from fun W a b d e f => by
              rw [hnx.out]
              refine ⟨a, b, d, e, own_eq f ?_ ?_⟩
              · simp [linkCells]
              · simp)
          have own7 := own_set_other own6 S6.2.2.2 (by decide) (j := 1) (.slice A6 (l.length + 1) c6)
          have B7 := S6.2.2.2.set 1 (.slice A6 (l.length + 1) c6)
          have A7 := S6.2.1.other (g' := tb) (j := 1) (.slice A6 (l.length + 1) c6) (by omega)
          have R7 := S6.2.2.1.stNew (p := ⟨tb, 1, none⟩) (by show w.heap.size + 1 ≠ tb; omega) (.slice A6 (l.length + 1) c6)
          have F7 := S6.1.st (p := ⟨tb, 1, none⟩) (by show w.heap.size ≤ tb; omega) (.slice A6 (l.length + 1) c6)
          have S7 := Kp.mk (hfin.out _ F7 A7 R7 B7 own7)
          clear own6 hg6 own5 S5 S6 own7 B7 A7 R7 F7 hfin hA4 hnx HX
          go_simp
          go_wp2
          go_roundw
          case rel => exact ⟨l.length + 1, A6, c6, by omega, by go_num, S7.out⟩
          case measure => simp [intOf]; omega
    · obtain rfl : k = nn := by omega
      have hlen := length_linksGet k y1
      obtain ⟨⟨l, y⟩, hly⟩ : ∃ ly, linksGet k y1 = ly := ⟨_, rfl⟩
      have hh := hHd.out
      rw [hly] at hS hlen hlk hh
      dsimp only at hS hlen hlk hh
      subst hlen
      have hG := Kp.mk (show R = if y.2 ≠ 0 then (tok0, y.2) else if y.1.length < 32 then (tok0, 1) else if 32 < y.1.length then (tok0, 2) else (⟨idl, l, y.1⟩, 0) by rw [← HR.out]; unfold tokGetR; rw [hh])
      have hrest := Kp.mk (show y.2 = 0 → s.drop (s.length - y.1.length) = y.1 from fun h => by
        have q := get_rest HX0.out HN0.out (by rw [hly]; exact h)
        rw [hly] at q
        exact q)
      obtain ⟨hE, hA, hr, hB, hO⟩ := hS
      obtain ⟨m, hm⟩ : ∃ m, s.length - y.1.length = m := ⟨_, rfl⟩
      have hmin : min (s.length : Int) (y.1.length : Int) = (y.1.length : Int) := by omega
      have hsub : (s.length : Int) - (y.1.length : Int) = (m : Int) := by omega
      have hw64 : IntKind.i64.wrap (m : Int) = (m : Int) := IntWalk.i64_in _ (by omega)
      have hml : m ≤ s.length := by omega
      have zs : (ofL s).size = s.length := size_ofL _
      obtain ⟨T, hT⟩ : ∃ T, s.drop m = T := ⟨_, rfl⟩
      have hx : (ofL s).extract m s.length = ofL T := by
        have q := extract_from (ofL s) m
        rw [zs, toL_ofL, hT] at q
        exact q
      have hTl : T.length = y.1.length := by rw [← hT, List.length_drop]; omega
      rw [hm, hT] at hrest
      have hlt0 := hA.lt
      have hlt1 := hr.lt
      clear hly hh hm hT hlk hHd hLL
      obtain ⟨ys, ye⟩ := y
      dsimp only at *
      by_cases he : ye = 0
      · subst he
        have hq := hrest.out rfl
        subst hq
        by_cases h1 : T.length < 32
        · have d1 : decide ((T.length : Int) < 32) = true := by simp; omega
          have hRe : R = (tok0, 1) := by rw [hG.out, if_neg (by decide), if_pos h1]
          have hfl : rFail (T, 0) 1 = ([], 1) := rfl
          subst hRe
          clear hG hrest h1 hTl hmin hsub hw64 hml hx
          go_wp2_with fail
          refine (err_any _ _ _ _ hr).mono ?_
          rintro e w5 ⟨rfl, h5⟩
          subst w5
          go_wp2_with fail
          refine (left_any _ _ _ _ _ hr).mono ?_
          rintro e w5 ⟨rfl, h5⟩
          subst w5
          go_wp2_with fail
          refine (fail_any _ (T, 0) 1 _ hr).mono ?_
          rw [hfl]
          rintro e w5 ⟨rfl, r5, O5⟩
          dsimp only at r5
          have A5 := arr_only O5 hA (by omega)
          have E5 := O5.toExt hE (by omega)
          have B5 := arr_only O5 hB (by omega)
          have Q5 := own_only O5 hO (by omega)
          clear hE hA hr hB hO O5
          obtain ⟨wr, rfl⟩ : ∃ x, x = w5 := ⟨_, rfl⟩
          have hE := E5; have hA := A5; have hr := r5; have hB := B5; have hO := Q5
          clear E5 A5 r5 B5 Q5
          have hmin : min (s.length : Int) 0 = 0 := by omega
          have hw64 : IntKind.i64.wrap (s.length : Int) = (s.length : Int) := IntWalk.i64_in _ (by omega)
          have t2 : ((1 : Int) != 0) = true := rfl
          go_wp2_with fail
          refine (left_any _ _ _ _ _ hr).mono ?_
          rintro e w5 ⟨rfl, h5⟩
          subst w5
          have b2 := hB.cell 2; have z2 := hB.frozen 2
          simp only [List.getElem?_cons_zero, List.getElem?_cons_succ] at b2
          have A6 := hA.other (g' := tb) (j := 2) (.string ByteArray.empty) (by omega)
          have r6 := hr.stNew (p := ⟨tb, 2, none⟩) (by show w.heap.size + 1 ≠ tb; omega) (.string ByteArray.empty)
          have E6 := hE.st (p := ⟨tb, 2, none⟩) (by show w.heap.size ≤ tb; omega) (.string ByteArray.empty)
          have O6 := own_set_other hO hB (by decide) (j := 2) (.string ByteArray.empty)
          have B6 := hB.set 2 (.string ByteArray.empty)
          obtain ⟨W6, hW6⟩ : ∃ W6, wr.setCell ⟨tb, 2, none⟩ (.string ByteArray.empty) = W6 := ⟨_, rfl⟩
          rw [hW6] at A6 r6 E6 O6 B6
          have HW6 := Kp.mk hW6
          clear hA hr hE hB hO hW6
          go_upto_region 10 with fail
          rw [HW6.out]
          clear HW6 b2 z2
          have b2 := B6.cell 2
          simp only [List.getElem?_cons_zero, List.getElem?_cons_succ, List.set] at b2
          have r9 := r6; have A9 := A6; have E9 := E6
          clear A6 E6 r6 O6 B6
          go_wp2_with fail
          refine (err_any _ _ _ _ r9).mono ?_
          rintro e w9 ⟨rfl, h9⟩
          subst w9
          have p0 := A9.cell 0; have p1 := A9.cell 1; have p2 := A9.cell 2; have y0 := A9.frozen 0; have y1 := A9.frozen 1; have y2 := A9.frozen 2
          simp only [List.getElem?_cons_zero, List.getElem?_cons_succ] at p0 p1 p2
          have A10 := arr_put3 A9 (.string ⟨#[]⟩) (.slice none 0 0) (.string ⟨#[]⟩)
          have E10 := ext_put3 E9 (Nat.le_refl _) (.string ⟨#[]⟩) (.slice none 0 0) (.string ⟨#[]⟩)
          clear A9 E9 r9
          go_wp2
          exact ret_got (r := (tok0, _)) rfl rfl rfl A10 E10 (World.ownsRow_nil _ _ _ _)
        · have d1 : decide ((T.length : Int) < 32) = false := by simp; omega
          by_cases h2 : 32 < T.length
          · have d2 : decide ((32 : Int) < (T.length : Int)) = true := by simp; omega
            have hRe : R = (tok0, 2) := by rw [hG.out, if_neg (by decide), if_neg h1, if_pos h2]
            have hfl : rFail (T, 0) 2 = ([], 2) := rfl
            subst hRe
            clear hG hrest h1 h2 hTl
            go_wp2_with fail
            refine (err_any _ _ _ _ hr).mono ?_
            rintro e w5 ⟨rfl, h5⟩
            subst w5
            go_wp2_with fail
            refine (left_any _ _ _ _ _ hr).mono ?_
            rintro e w5 ⟨rfl, h5⟩
            subst w5
            go_wp2_with fail
            refine (left_any _ _ _ _ _ hr).mono ?_
            rintro e w5 ⟨rfl, h5⟩
            subst w5
            have b2 := hB.cell 2; have z2 := hB.frozen 2
            simp only [List.getElem?_cons_zero, List.getElem?_cons_succ] at b2
            have A6 := hA.other (g' := tb) (j := 2) (.string (ofL T)) (by omega)
            have r6 := hr.stNew (p := ⟨tb, 2, none⟩) (by show w.heap.size + 1 ≠ tb; omega) (.string (ofL T))
            have E6 := hE.st (p := ⟨tb, 2, none⟩) (by show w.heap.size ≤ tb; omega) (.string (ofL T))
            have O6 := own_set_other hO hB (by decide) (j := 2) (.string (ofL T))
            have B6 := hB.set 2 (.string (ofL T))
            obtain ⟨W6, hW6⟩ : ∃ W6, wr.setCell ⟨tb, 2, none⟩ (.string (ofL T)) = W6 := ⟨_, rfl⟩
            rw [hW6] at A6 r6 E6 O6 B6
            have HW6 := Kp.mk hW6
            clear hA hr hE hB hO hW6
            go_upto_region 10 with fail
            rw [HW6.out]
            clear HW6 b2 z2
            have b2 := B6.cell 2
            simp only [List.getElem?_cons_zero, List.getElem?_cons_succ, List.set] at b2
            go_wp2_with fail
            refine (fail_any _ (T, 0) 2 _ r6).mono ?_
            rw [hfl]
            rintro e w7 ⟨rfl, r9, O7⟩
            dsimp only at r9
            have A9 := arr_only O7 A6 (by omega)
            have E9 := O7.toExt E6 (by omega)
            have t2 : ((2 : Int) != 0) = true := rfl
            clear A6 E6 r6 O6 B6 O7 b2
            go_wp2_with fail
            refine (err_any _ _ _ _ r9).mono ?_
            rintro e w9 ⟨rfl, h9⟩
            subst w9
            have p0 := A9.cell 0; have p1 := A9.cell 1; have p2 := A9.cell 2; have y0 := A9.frozen 0; have y1 := A9.frozen 1; have y2 := A9.frozen 2
            simp only [List.getElem?_cons_zero, List.getElem?_cons_succ] at p0 p1 p2
            have A10 := arr_put3 A9 (.string ⟨#[]⟩) (.slice none 0 0) (.string ⟨#[]⟩)
            have E10 := ext_put3 E9 (Nat.le_refl _) (.string ⟨#[]⟩) (.slice none 0 0) (.string ⟨#[]⟩)
            clear A9 E9 r9
            go_wp2
            exact ret_got (r := (tok0, _)) rfl rfl rfl A10 E10 (World.ownsRow_nil _ _ _ _)
          · have d2 : decide ((32 : Int) < (T.length : Int)) = false := by simp; omega
            have hRe : R = (⟨idl, l, T⟩, 0) := by rw [hG.out, if_neg (by decide), if_neg h1, if_neg h2]
            subst hRe
            clear hG hrest h1 h2 hTl
            go_wp2_with fail
            refine (err_any _ _ _ _ hr).mono ?_
            rintro e w5 ⟨rfl, h5⟩
            subst w5
            go_wp2_with fail
            refine (left_any _ _ _ _ _ hr).mono ?_
            rintro e w5 ⟨rfl, h5⟩
            subst w5
            go_wp2_with fail
            refine (left_any _ _ _ _ _ hr).mono ?_
            rintro e w5 ⟨rfl, h5⟩
            subst w5
            have b2 := hB.cell 2; have z2 := hB.frozen 2
            simp only [List.getElem?_cons_zero, List.getElem?_cons_succ] at b2
            have A6 := hA.other (g' := tb) (j := 2) (.string (ofL T)) (by omega)
            have r6 := hr.stNew (p := ⟨tb, 2, none⟩) (by show w.heap.size + 1 ≠ tb; omega) (.string (ofL T))
            have E6 := hE.st (p := ⟨tb, 2, none⟩) (by show w.heap.size ≤ tb; omega) (.string (ofL T))
            have O6 := own_set_other hO hB (by decide) (j := 2) (.string (ofL T))
            have B6 := hB.set 2 (.string (ofL T))
            obtain ⟨W6, hW6⟩ : ∃ W6, wr.setCell ⟨tb, 2, none⟩ (.string (ofL T)) = W6 := ⟨_, rfl⟩
            rw [hW6] at A6 r6 E6 O6 B6
            have HW6 := Kp.mk hW6
            clear hA hr hE hB hO hW6
            go_upto_region 10 with fail
            rw [HW6.out]
            clear HW6 b2 z2
            have b2 := B6.cell 2
            simp only [List.getElem?_cons_zero, List.getElem?_cons_succ, List.set] at b2
            go_wp2_with fail
            refine (err_any _ _ _ _ r6).mono ?_
            rintro e w9 ⟨rfl, h9⟩
            subst w9
            have b0 := B6.cell 0; have b1 := B6.cell 1
            have p0 := A6.cell 0; have p1 := A6.cell 1; have p2 := A6.cell 2; have y0 := A6.frozen 0; have y1 := A6.frozen 1; have y2 := A6.frozen 2
            simp only [List.getElem?_cons_zero, List.getElem?_cons_succ, List.set] at b0 b1 p0 p1 p2
            have A10 := arr_put3 A6 (.string (ofL idl)) (.slice A l.length c) (.string (ofL T))
            have E10 := ext_put3 E6 (Nat.le_refl _) (.string (ofL idl)) (.slice A l.length c) (.string (ofL T))
            have O10 := own_set_other (own_set_other (own_set_other O6 A6 (by decide) (j := 0) (.string (ofL idl))) (A6.set 0 (.string (ofL idl))) (by decide) (j := 1) (.slice A l.length c)) ((A6.set 0 (.string (ofL idl))).set 1 (.slice A l.length c)) (by decide) (j := 2) (.string (ofL T))
            clear A6 E6 r6 O6 B6
            go_wp2
            exact ret_got (r := (⟨idl, l, T⟩, 0)) rfl rfl rfl A10 E10 (own_more O10 (by omega))
      · have t1 : (ye == 0) = false := beq_int_f he
        have t2 : (ye != 0) = true := bne_int_t he
        have hRe : R = (tok0, ye) := by rw [hG.out, if_pos he]
        have hfl : rFail (ys, ye) 2 = (ys, ye) := if_pos (.inl he)
        subst hRe
        clear hG he hrest
        go_wp2_with fail
        refine (err_any _ _ _ _ hr).mono ?_
        rintro e w5 ⟨rfl, h5⟩
        subst w5
        go_wp2_with fail
        refine (left_any _ _ _ _ _ hr).mono ?_
        rintro e w5 ⟨rfl, h5⟩
        subst w5
        have b2 := hB.cell 2; have z2 := hB.frozen 2
        simp only [List.getElem?_cons_zero, List.getElem?_cons_succ] at b2
        have A6 := hA.other (g' := tb) (j := 2) (.string (ofL T)) (by omega)
        have r6 := hr.stNew (p := ⟨tb, 2, none⟩) (by show w.heap.size + 1 ≠ tb; omega) (.string (ofL T))
        have E6 := hE.st (p := ⟨tb, 2, none⟩) (by show w.heap.size ≤ tb; omega) (.string (ofL T))
        have O6 := own_set_other hO hB (by decide) (j := 2) (.string (ofL T))
        have B6 := hB.set 2 (.string (ofL T))
        obtain ⟨W6, hW6⟩ : ∃ W6, wr.setCell ⟨tb, 2, none⟩ (.string (ofL T)) = W6 := ⟨_, rfl⟩
        rw [hW6] at A6 r6 E6 O6 B6
        have HW6 := Kp.mk hW6
        clear hA hr hE hB hO hW6
        go_upto_region 10 with fail
        rw [HW6.out]
        clear HW6 b2 z2
        have b2 := B6.cell 2
        simp only [List.getElem?_cons_zero, List.getElem?_cons_succ, List.set] at b2
        by_cases h32 : 32 < ys.length
        · have d1 : decide ((32 : Int) < (T.length : Int)) = true := by simp; omega
          clear h32 hTl
          go_wp2_with fail
          refine (fail_any _ (ys, ye) 2 _ r6).mono ?_
          rw [hfl]
          rintro e w7 ⟨rfl, r9, O7⟩
          dsimp only at r9
          have A9 := arr_only O7 A6 (by omega)
          have E9 := O7.toExt E6 (by omega)
          clear A6 E6 r6 O6 B6 O7 b2
          go_wp2_with fail
          refine (err_any _ _ _ _ r9).mono ?_
          rintro e w9 ⟨rfl, h9⟩
          subst w9
          have p0 := A9.cell 0; have p1 := A9.cell 1; have p2 := A9.cell 2; have y0 := A9.frozen 0; have y1 := A9.frozen 1; have y2 := A9.frozen 2
          simp only [List.getElem?_cons_zero, List.getElem?_cons_succ] at p0 p1 p2
          have A10 := arr_put3 A9 (.string ⟨#[]⟩) (.slice none 0 0) (.string ⟨#[]⟩)
          have E10 := ext_put3 E9 (Nat.le_refl _) (.string ⟨#[]⟩) (.slice none 0 0) (.string ⟨#[]⟩)
          clear A9 E9 r9
          go_wp2
          exact ret_got (r := (tok0, _)) rfl rfl rfl A10 E10 (World.ownsRow_nil _ _ _ _)
        · have d1 : decide ((32 : Int) < (T.length : Int)) = false := by simp; omega
          have r9 := r6; have A9 := A6; have E9 := E6
          clear h32 A6 E6 r6 O6 B6 hTl
          go_wp2_with fail
          refine (err_any _ _ _ _ r9).mono ?_
          rintro e w9 ⟨rfl, h9⟩
          subst w9
          have p0 := A9.cell 0; have p1 := A9.cell 1; have p2 := A9.cell 2; have y0 := A9.frozen 0; have y1 := A9.frozen 1; have y2 := A9.frozen 2
          simp only [List.getElem?_cons_zero, List.getElem?_cons_succ] at p0 p1 p2
          have A10 := arr_put3 A9 (.string ⟨#[]⟩) (.slice none 0 0) (.string ⟨#[]⟩)
          have E10 := ext_put3 E9 (Nat.le_refl _) (.string ⟨#[]⟩) (.slice none 0 0) (.string ⟨#[]⟩)
          clear A9 E9 r9
          go_wp2
          exact ret_got (r := (tok0, _)) rfl rfl rfl A10 E10 (World.ownsRow_nil _ _ _ _)
end Go.Proofs.YtmnpbpfeoackiaaDoor
