/-
  Package bundle: Get. No condition. · Package bundle's reference: take. No condition. · Package bundle's reference: Get. No condition.
-/
import Derived.Test.YtmnpbpfeoackiaaDoorBu7
import Derived.Test.YtmnpbpfeoackiaaDoorMgG
import Derived.Test.YtmnpbpfeoackiaaDoorTk6
import Derived.Test.YtmnpbpfeoackiaaDoorTk5
namespace Go.Proofs.YtmnpbpfeoackiaaDoor
open Go.RowKit

/-- A bundle is returned, and what was wrong. -/
def BunGot (w : World) (r : (TokL × List TokL) × Int) (e : Ending) (w' : World) : Prop := ∃ A c Am cm ts, e = .returned (.tuple #[bunV r.1.1.id (.slice A r.1.1.links.length c) r.1.1.tag (.slice Am r.1.2.length cm), .int .i64 r.2]) ∧ RdLinks w' w'.heap.size (.slice A r.1.1.links.length c) r.1.1.links ∧ RdToks w' w'.heap.size (.slice Am r.1.2.length cm) ts ∧ ts.map TokA.plain = r.1.2 ∧ Ext w w'
/-- While tokens are read: the result's block, the reader's, the bundle's. -/
structure BgSt (w W : World) (b : Nat) (id tag : List UInt8) (A9 : Option Addr) (c9 : Nat) (l : List LinkL) (vm : Value) (ts : List TokA) (y : RS) : Prop where
  ext : Ext w W
  res : Arr W w.heap.size 38 [.string ⟨#[]⟩, .slice none 0 0, .string ⟨#[]⟩, .slice none 0 0]
  rdr : Rdr W (w.heap.size + 1) true y.1 y.2
  bun : Arr W b 38 [.string (ofL id), .slice A9 l.length c9, .string (ofL tag), vm]
  lnk : W.ownsRow (w.heap.size + 2) 74 2 (.slice A9 l.length c9) l.length (linkCells l)
  own : ∀ t ∈ ts, OwnTok W (w.heap.size + 2) t
  row : W.ownsRow (w.heap.size + 2) 24 3 vm ts.length (toksCells ts)
section
variable {w W W' : World} {b : Nat} {id tag : List UInt8} {A9 : Option Addr} {c9 : Nat} {l : List LinkL} {vm : Value} {ts : List TokA} {y : RS}
theorem BgSt.up (h : BgSt w W b id tag A9 c9 l vm ts y) (e : Ext W W') : BgSt w W' b id tag A9 c9 l vm ts y :=
  ⟨h.ext.tr e, h.res.ext e h.res.lt, h.rdr.ext e, h.bun.ext e h.bun.lt, own_ext h.lnk (fun j _ hj => e.block j hj), fun t ht => (h.own t ht).ext e, own_ext h.row (fun j _ hj => e.block j hj)⟩
theorem BgSt.read (h : BgSt w W b id tag A9 c9 l vm ts y) (hb : w.heap.size + 1 < b) {y' : RS} (O : Only (w.heap.size + 1) W W') (r : Rdr W' (w.heap.size + 1) true y'.1 y'.2) : BgSt w W' b id tag A9 c9 l vm ts y' :=
  ⟨O.toExt h.ext (by omega), arr_only O h.res (by omega), r, arr_only O h.bun (by omega), own_only O h.lnk (by omega), fun t ht => own_only O (h.own t ht) (by omega), own_only O h.row (by omega)⟩
theorem BgSt.grow (h : BgSt w W b id tag A9 c9 l vm ts y) (hg : W.grownBy W' vm.ownBlock) :
    Ext w W' ∧ Arr W' w.heap.size 38 [.string ⟨#[]⟩, .slice none 0 0, .string ⟨#[]⟩, .slice none 0 0] ∧ Rdr W' (w.heap.size + 1) true y.1 y.2 ∧ Arr W' b 38 [.string (ofL id), .slice A9 l.length c9, .string (ofL tag), vm] ∧
    W'.ownsRow (w.heap.size + 2) 74 2 (.slice A9 l.length c9) l.length (linkCells l) ∧ ∀ t ∈ ts, OwnTok W' (w.heap.size + 2) t := by
  have hne : ∀ k, k < w.heap.size + 2 → vm.ownBlock ≠ some k := fun k hk e => by have := (h.row.lt k e).1; omega
  exact ⟨h.ext.own hg h.row (by omega), (hg.block _ h.res.lt (fun e => hne _ (by omega) e.symm)).trans h.res, (hg.block _ h.rdr.lt (fun e => hne _ (by omega) e.symm)).trans h.rdr, arr_kept_type h.bun h.row (by decide) hg, own_kept_type h.lnk h.row (by decide) hg, fun t ht => own_kept_type (h.own t ht) h.row (by decide) hg⟩
end
theorem takesGet_step (k : Nat) (x : RS) : takesGet (k + 1) x = ((takesGet k x).1 ++ [(takeGet (takesGet k x).2).1], (takeGet (takesGet k x).2).2) := rfl
/-- Between two rounds. -/
def BgI (w W : World) (b : Nat) (id tag : List UInt8) (A9 : Option Addr) (c9 : Nat) (l : List LinkL) (y1 : RS) (k : Nat) : Prop := ∃ Am cm ts, ts.map TokA.plain = (takesGet k y1).1 ∧ BgSt w W b id tag A9 c9 l (.slice Am k cm) ts (takesGet k y1).2
theorem arr_put4 {W : World} {g : Nat} {t : TypeId} {a b c d : Value} (hA : Arr W g t [a, b, c, d]) (x y z u : Value) : Arr ((((W.setCell ⟨g, 0, none⟩ x).setCell ⟨g, 1, none⟩ y).setCell ⟨g, 2, none⟩ z).setCell ⟨g, 3, none⟩ u) g t [x, y, z, u] := (((hA.set 0 x).set 1 y).set 2 z).set 3 u
theorem ext_put4 {w W : World} (E : Ext w W) {g : Nat} (hg : w.heap.size ≤ g) (x y z u : Value) : Ext w ((((W.setCell ⟨g, 0, none⟩ x).setCell ⟨g, 1, none⟩ y).setCell ⟨g, 2, none⟩ z).setCell ⟨g, 3, none⟩ u) := (ext_put3 E hg x y z).st (p := ⟨g, 3, none⟩) hg u
theorem own_put4 {W : World} {base b : Nat} {e t : TypeId} {size n : Nat} {v : Value} {xs ys : List Value} (h : W.ownsRow base e size v n xs) (hA : Arr W b t ys) (hne : e ≠ t) (x y z u : Value) : ((((W.setCell ⟨b, 0, none⟩ x).setCell ⟨b, 1, none⟩ y).setCell ⟨b, 2, none⟩ z).setCell ⟨b, 3, none⟩ u).ownsRow base e size v n xs :=
  own_set_other (own_put3 h hA hne x y z) (((hA.set 0 x).set 1 y).set 2 z) hne u

set_option maxRecDepth 100000 in
set_option maxHeartbeats 4000000 in
theorem buget_any (s : List UInt8) (w : World) (hs : s.length ≤ 1000000) : Calls Tryd.prog 26 #[.string (ofL s)] w (BunGot w (bunGetR s)) := by
  obtain ⟨W, hW, E0, A0⟩ : ∃ W, w.alloc (.cells #[.string ⟨#[]⟩, .slice none 0 0, .string ⟨#[]⟩, .slice none 0 0] 38) = W ∧ Ext w W ∧ Arr W w.heap.size 38 [.string ⟨#[]⟩, .slice none 0 0, .string ⟨#[]⟩, .slice none 0 0] := ⟨_, rfl, (Ext.rfl' w).al _, Arr.new w _ [.string ⟨#[]⟩, .slice none 0 0, .string ⟨#[]⟩, .slice none 0 0]⟩
  have HW := Kp.mk hW
  have hW1 : W.heap.size = w.heap.size + 1 := by rw [← hW]; simp
  have cN := new_any (ofL s) W
  rw [toL_ofL, hW1] at cN
  replace cN := Kp.mk cN
  have zs : (ofL s).size = s.length := size_ofL _
  obtain ⟨R, hR⟩ : ∃ R, bunGetR s = R := ⟨_, rfl⟩
  rw [hR]
  unfold bunGetR at hR
  have y0 := A0.cell 0; have y1 := A0.cell 1; have y2 := A0.cell 2; have y3 := A0.cell 3
  have z0 := A0.frozen 0; have z1 := A0.frozen 1; have z2 := A0.frozen 2; have z3 := A0.frozen 3
  simp only [List.getElem?_cons_zero, List.getElem?_cons_succ] at y0 y1 y2 y3
  clear hW
  by_cases g1 : 65536 < s.length
  · have d1 : decide ((65536 : Int) < (s.length : Int)) = true := by simp; omega
    rw [if_pos g1] at hR
    subst hR
    clear g1 cN hW1
    go_enter Tryd.func26, Tryd.ntmps26
    go_upto_region 1 with fail
    rw [HW.out]
    clear HW
    go_wp2
    exact bodyPost_ret (v := .tuple #[.agg #[.string ⟨#[]⟩, .slice none 0 0, .string ⟨#[]⟩, .slice none 0 0], .int .i64 3]) (results_cell_slot rfl _ _ w.heap.size _ _ _ _ _ rfl rfl (arr_put4 A0 _ _ _ _) Tryd.underlying38 rfl (by kernel_rfl)) rfl ⟨none, 0, none, 0, [], rfl, rd_nil _ _, ⟨⟨none, 0, rfl, by decide, rfl, fun h => absurd h (by decide)⟩, fun t ht => by cases ht⟩, rfl, ext_put4 E0 (Nat.le_refl _) _ _ _ _⟩
  · have d1 : decide ((65536 : Int) < (s.length : Int)) = false := by simp; omega
    rw [if_neg g1] at hR
    have hl0 := takeGet_len (s, 0)
    unfold bunHeadGet at hR
    obtain ⟨⟨⟨ti, tl, tt⟩, yy0⟩, hT0⟩ : ∃ r, takeGet (s, 0) = r := ⟨_, rfl⟩
    rw [hT0] at hR hl0
    dsimp only at hR hl0
    have hl1 := rNum_len yy0 8
    have hn8 := rNum_le yy0 8
    obtain ⟨⟨nn, yy1⟩, hN0⟩ : ∃ N, rNum yy0 8 = N := ⟨_, rfl⟩
    rw [hN0] at hR hl1 hn8
    dsimp only at hR hl1 hn8
    have HR := Kp.mk hR
    have cK := Kp.mk (fun W1 (h : Rdr W1 (w.heap.size + 1) true s 0) => butake_any (w.heap.size + 1) (s, 0) W1 h hs)
    rw [hT0] at cK
    have HN0 := Kp.mk hN0
    have hLL := Kp.mk (fun k => takesGet_len k yy1)
    have hwr : IntKind.i64.wrap (nn : Int) = (nn : Int) := IntWalk.i64_in _ (by omega)
    clear hR hT0 hN0 g1
    go_enter Tryd.func26, Tryd.ntmps26
    go_upto_region 1 with fail
    rw [HW.out]
    clear HW
    go_wp2_with fail
    refine cN.out.mono ?_
    rintro e w1 ⟨rfl, R1, E1⟩
    have A1 := A0.ext E1 A0.lt
    have F1 := E0.tr E1
    clear A0 E0 E1 cN y0 y1 y2 y3 z0 z1 z2 z3
    go_wp2_with fail
    refine (cK.out w1 R1).mono ?_
    rintro e w2 ⟨A9, c9, rfl, Q2, R2, O2⟩
    have A2 := arr_only O2 A1 (by omega)
    have F2 := O2.toExt F1 (by omega)
    replace Q2 := own_more (base' := w.heap.size + 2) Q2 (by have := R1.lt; omega)
    dsimp only at Q2 R2 ⊢
    have hgt : w.heap.size + 1 < w2.heap.size := R2.lt
    clear R1 A1 F1 O2 cK
    obtain ⟨V, hV, EV, BV⟩ : ∃ V, w2.alloc (.cells #[.string (ofL ti), .slice A9 tl.length c9, .string (ofL tt), .slice none 0 0] 38) = V ∧ Ext w2 V ∧ Arr V w2.heap.size 38 [.string (ofL ti), .slice A9 tl.length c9, .string (ofL tt), .slice none 0 0] := ⟨_, rfl, (Ext.rfl' w2).al _, Arr.new w2 _ [.string (ofL ti), .slice A9 tl.length c9, .string (ofL tt), .slice none 0 0]⟩
    obtain ⟨b, hbe⟩ : ∃ b, w2.heap.size = b := ⟨_, rfl⟩
    rw [hbe] at hgt BV
    have S3 : BgSt w V b ti tt A9 c9 tl (.slice none 0 0) [] yy0 := ⟨F2.tr EV, A2.ext EV A2.lt, R2.ext EV, BV, own_ext Q2 (fun j _ hj => EV.block j hj), fun t ht => (by cases ht), World.ownsRow_nil _ _ _ _⟩
    have HV := Kp.mk hV; have HB := Kp.mk hbe
    clear hV EV BV A2 R2 F2 Q2 hbe
    go_upto_region 5 with fail
    rw [HV.out, HB.out]
    clear HV HB
    go_wp2_with fail
    refine (num_any (w.heap.size + 1) yy0 8 V S3.rdr (by omega)).mono ?_
    rw [HN0.out]
    rintro e w3 ⟨rfl, R3, O3⟩
    have S4 := S3.read hgt O3 R3
    clear S3 R3 O3
    go_wp2_with fail
    go_loopw [19] (fun i wr => ∃ k : Nat, k ≤ nn ∧ i = .int .i64 k ∧ BgI w wr b ti tt A9 c9 tl yy1 k) (fun i _ => nn - (intOf i).toNat)
    case atStart => exact ⟨0, by omega, rfl, none, 0, [], rfl, S4⟩
    case round =>
      clear S4
      obtain ⟨k, hk, rfl, hI⟩ := hrel
      by_cases hlt : k < nn
      · have hlk := hLL.out k
        have hln := length_takesGet k yy1
        obtain ⟨Am, cm, ts, hts, hS⟩ := hI
        have hnx := takesGet_step k yy1
        obtain ⟨⟨l0, y⟩, hly⟩ : ∃ ly, takesGet k yy1 = ly := ⟨_, rfl⟩
        rw [hly] at hS hlk hts hnx hln
        dsimp only at hS hlk hts hnx hln
        obtain ⟨⟨⟨di, dl, dt⟩, y'⟩, hx⟩ : ∃ X, takeGet y = X := ⟨_, rfl⟩
        rw [hx] at hnx
        dsimp only at hnx
        have cL := Kp.mk (fun W (h : Rdr W (w.heap.size + 1) true y.1 y.2) => butake_any (w.heap.size + 1) y W h (by omega))
        rw [hx] at cL
        have htl : ts.length = k := by rw [← hln, ← hts, List.length_map]
        replace hnx := Kp.mk hnx
        replace hts := Kp.mk hts
        subst htl
        clear hx hly hlk hln
        go_upto_region 7 with fail
        refine wp_region_stages [3] (fun bs W => (∃ y2, BgSt w W b ti tt A9 c9 tl (.slice Am ts.length cm) ts y2) ∧ (bs[0]? = some false → Rdr W (w.heap.size + 1) true y.1 y.2) ∧ (bs[0]? = some true → Rdr W (w.heap.size + 1) true y'.1 y'.2)) (fun bs i v W => match i with
          | 0 => v = .pointer (some ⟨b, 3, none⟩)
          | 1 => v = .slice Am ts.length cm
          | 2 => v = .pointer (some ⟨w.heap.size + 1, 0, none⟩)
          | 3 => bs[0]? = some true ∧ ∃ A8 c8, v = .agg #[.string (ofL di), .slice A8 dl.length c8, .string (ofL dt)] ∧ W.ownsRow (w.heap.size + 2) 74 2 (.slice A8 dl.length c8) dl.length (linkCells dl)
          | 4 => bs[0]? = some true ∧ ∃ b4 A8 c8, v = .slice (some ⟨b4, 0, none⟩) 1 1 ∧ Arr W b4 24 [.string (ofL di), .slice A8 dl.length c8, .string (ofL dt)] ∧ W.ownsRow (w.heap.size + 2) 74 2 (.slice A8 dl.length c8) dl.length (linkCells dl)
          | _ => True) 5 (cs_inj (by decide)) (by decide) (by kernel_rfl) (by kernel_rfl) (by kernel_rfl) (by decide) (by kernel_rfl) (by kernel_rfl) (by kernel_rfl) (⟨⟨y, hS.up (Ext.rfl' _).dr⟩, fun _ => hS.rdr.ext (Ext.rfl' _).dr, fun h => absurd h (by decide)⟩) (fun bs W1 W2 ⟨⟨y2, a⟩, b, d⟩ e => ⟨⟨y2, a.up e⟩, fun h => (b h).ext e, fun h => (d h).ext e⟩) ?_ ?_ ?_
        · intro bs i v W1 W2 e1 e2 h
          match i, h with
          | 0, h => exact h
          | 1, h => exact h
          | 2, h => exact h
          | 3, ⟨h0, A8, c8, h1, h2⟩ => exact ⟨h0, A8, c8, h1, own_ext h2 (fun j _ hj => e2.block j hj)⟩
          | 4, ⟨h0, b4, A8, c8, h1, h2, h3⟩ => exact ⟨h0, b4, A8, c8, h1, h2.ext e2 h2.lt, own_ext h3 (fun j _ hj => e2.block j hj)⟩
          | (i + 5), h => exact h
        · refine localsT_ord (by decide) (fun bs u W hbs hW hno hd => leaves_val rfl (v := .pointer (some ⟨b, 3, none⟩)) (by go_simp) rfl) ?_
          refine localsT_ord (by decide) (fun bs u W hbs hW hno hd => ?_) ?_
          · have h0 : u 0 = _ := hd 0 (by kernel_rfl)
            obtain ⟨y2, hT⟩ := hW.1
            have q1 := hT.bun.cell 3
            simp only [List.getElem?_cons_zero, List.getElem?_cons_succ] at q1
            exact leaves_val rfl (v := .slice Am ts.length cm) (by go_simp) rfl
          refine localsT_ord (by decide) (fun bs u W hbs hW hno hd => leaves_val rfl (v := .pointer (some ⟨w.heap.size + 1, 0, none⟩)) (by go_simp) rfl) ?_
          refine localsT_turn 0 rfl (fun q hq => cs_inj (cs := [3]) (by decide) 0 q _ rfl hq) (fun bs u W hbs hb0 hW hd hcs => ?_) ?_
          · have h2 : u 2 = _ := hd 2 (by kernel_rfl)
            have hset : (bs.set 0 true)[0]? = some true := List.getElem?_set_self (by rw [hbs]; decide)
            obtain ⟨⟨y2, hT⟩, hr, _⟩ := hW
            have hbw : w.heap.size + 2 ≤ W.heap.size := by have := hT.rdr.lt; omega
            refine ⟨rfl, fun K Q hK => turn_call (f := 70) (args := #[.pointer (some ⟨w.heap.size + 1, 0, none⟩)]) (R := fun v W9 => (∃ A8 c8, v = .agg #[.string (ofL di), .slice A8 dl.length c8, .string (ofL dt)] ∧ W9.ownsRow (w.heap.size + 2) 74 2 (.slice A8 dl.length c8) dl.length (linkCells dl)) ∧ Rdr W9 (w.heap.size + 1) true y'.1 y'.2 ∧ Only (w.heap.size + 1) W W9) (by go_simp) ((cL.out W (hr hb0)).mono (fun e9 W9 ⟨A8, c8, h1, h2, h3, h4⟩ => ⟨_, h1, ⟨A8, c8, rfl, own_more h2 hbw⟩, h3, h4⟩)) (fun v9 W9 ⟨h1, h3, h4⟩ => hK v9 W9 ⟨⟨y', hT.read hgt h4 h3⟩, fun h => (by rw [hset] at h; cases h), fun _ => h3⟩ ⟨hset, h1⟩ ?_)⟩
            · intro k h
              match k, h with
              | 0, h => exact h
              | 1, h => exact h
              | 2, h => exact h
              | 3, h => rw [hb0] at h; cases h.1
              | 4, h => rw [hb0] at h; cases h.1
              | (k + 5), h => exact h
          refine localsT_ord (by decide) (fun bs u W hbs hW hno hd => ?_) localsT_nil
          · have h3 := hd 3 (by kernel_rfl)
            obtain ⟨hb3, A8, c8, e3, h3⟩ := h3
            exact leaves_new rfl (v := .slice (some ⟨W.heap.size, 0, none⟩) 1 1) (w' := W.alloc (.cells #[.string (ofL di), .slice A8 dl.length c8, .string (ofL dt)] 24)) (by go_simp) ((Ext.rfl' W).al _) ⟨hb3, _, A8, c8, rfl, Arr.new W _ [.string (ofL di), .slice A8 dl.length c8, .string (ofL dt)], own_ext h3 (fun j _ hj => ((Ext.rfl' W).al _).block j hj)⟩
        · intro u W5 hJ hV
          obtain ⟨⟨y2, hT⟩, _, hr⟩ := hJ
          have hR := hr rfl
          have h1 : u 1 = _ := hV 1 (by decide)
          obtain ⟨_, b4, A8, c8, h4, hA4, hQ4⟩ := hV 4 (by decide)
          have S5 : BgSt w W5 b ti tt A9 c9 tl (.slice Am ts.length cm) ts y' := ⟨hT.ext, hT.res, hR, hT.bun, hT.lnk, hT.own, hT.row⟩
          have hs5 := S5.bun.lt
          have own5 := S5.row
          clear hT hr hR hV hS
          refine wpl_app_at Tryd.elemTok rfl _ _ rfl own5 (ad := ⟨b4, 0, none⟩) (c := 1) (news := toksCells [⟨di, dt, A8, c8, dl⟩]) 1 (by go_simp) (by go_simp) rfl ?_ (oneCell_toks _) (by omega) (by omega) (by omega) ?_
          · intro j u8 hu
            rw [WideShapes.add_plain, hA4.cell, Nat.zero_add]
            exact hu
          · intro v6 w6 own6 hg6
            have S6 := S5.grow hg6
            have hQ6 := own_kept_type hQ4 own5 (by decide) hg6
            obtain ⟨A6, c6, hv6⟩ := own_slice own6
            subst hv6
            have q1 := S6.2.2.2.1.cell 3; have z1 := S6.2.2.2.1.frozen 3
            simp only [List.getElem?_cons_zero, List.getElem?_cons_succ] at q1
            have S7 : BgSt w (w6.setCell ⟨b, 3, none⟩ (.slice A6 (ts.length + 1) c6)) b ti tt A9 c9 tl (.slice A6 (ts.length + 1) c6) (ts ++ [⟨di, dt, A8, c8, dl⟩]) y' :=
              ⟨S6.1.st (p := ⟨b, 3, none⟩) (by show w.heap.size ≤ b; omega) _, S6.2.1.other (g' := b) (j := 3) _ (by omega), S6.2.2.1.stNew (p := ⟨b, 3, none⟩) (by show w.heap.size + 1 ≠ b; omega) _, S6.2.2.2.1.set 3 _,
               own_set_other S6.2.2.2.2.1 S6.2.2.2.1 (by decide) _, fun t ht => by
                 rcases List.mem_append.1 ht with ht | ht
                 · exact own_set_other (S6.2.2.2.2.2 t ht) S6.2.2.2.1 (by decide) _
                 · obtain rfl := List.mem_singleton.1 ht
                   exact own_set_other hQ6 S6.2.2.2.1 (by decide) _,
               own_eq (own_set_other own6 S6.2.2.2.1 (by decide) _) (toksCells_append _ _).symm (by simp)⟩
            have S8 := Kp.mk (show BgI w (w6.setCell ⟨b, 3, none⟩ (.slice A6 (ts.length + 1) c6)) b ti tt A9 c9 tl yy1 (ts.length + 1) from ⟨A6, c6, ts ++ [⟨di, dt, A8, c8, dl⟩], by rw [hnx.out, List.map_append, hts.out]; rfl, by rw [hnx.out]; exact S7⟩)
            clear own6 hg6 own5 S5 S6 S7 hQ4 hQ6 hA4 hnx hts cL
            go_simp
            go_wp2
            go_roundw
            case rel => exact ⟨ts.length + 1, by omega, by go_num, S8.out⟩
            case measure => simp [intOf]; omega
      · obtain rfl : k = nn := by omega
        have hlk := hLL.out k
        have hln := length_takesGet k yy1
        obtain ⟨Am, cm, ts, hts, hS⟩ := hI
        obtain ⟨⟨l0, y⟩, hly⟩ : ∃ ly, takesGet k yy1 = ly := ⟨_, rfl⟩
        have hRR := HR.out
        rw [hly] at hS hlk hts hln hRR
        dsimp only at hS hlk hts hln hRR
        obtain ⟨z, hz⟩ : ∃ z, rEnd y = z := ⟨_, rfl⟩
        have cE := end_any (w.heap.size + 1) y wr hS.rdr (by omega)
        rw [hz] at hRR cE
        replace cE := Kp.mk cE
        replace hRR := Kp.mk hRR
        replace hts := Kp.mk hts
        clear hly hz hlk
        have HLN := Kp.mk hln
        clear hln
        go_wp2_with fail
        refine cE.out.mono ?_
        rintro e w5 ⟨rfl, R5, O5⟩
        have S5 := hS.read hgt O5 R5
        clear hS O5 R5 cE
        have q0 := S5.bun.cell 0; have q1 := S5.bun.cell 1; have q2 := S5.bun.cell 2; have q3 := S5.bun.cell 3
        have y0 := S5.res.cell 0; have y1 := S5.res.cell 1; have y2 := S5.res.cell 2; have y3 := S5.res.cell 3
        have z0 := S5.res.frozen 0; have z1 := S5.res.frozen 1; have z2 := S5.res.frozen 2; have z3 := S5.res.frozen 3
        simp only [List.getElem?_cons_zero, List.getElem?_cons_succ] at q0 q1 q2 q3 y0 y1 y2 y3
        by_cases he : z.2 = 0
        · have d3 : (z.2 != 0) = false := by rw [he]; rfl
          have hRe := hRR.out
          rw [if_neg (by rw [he]; simp)] at hRe
          subst hRe
          clear hRR HR he
          go_wp2
          refine bodyPost_ret (v := .tuple #[.agg #[.string (ofL ti), .slice A9 tl.length c9, .string (ofL tt), .slice Am k cm], .int .i64 0]) (results_cell_slot rfl _ _ w.heap.size _ _ _ _ _ rfl rfl (arr_put4 S5.res _ _ _ _) Tryd.underlying38 rfl (by kernel_rfl)) rfl ⟨A9, c9, Am, cm, ts, ?_, own_links (own_put4 S5.lnk S5.res (by decide) _ _ _ _) rfl, ⟨?_, fun t ht => own_links (own_put4 (S5.own t ht) S5.res (by decide) _ _ _ _) rfl⟩, hts.out, ext_put4 S5.ext (Nat.le_refl _) _ _ _ _⟩
          · rw [← HLN.out]; rfl
          · dsimp only
            rw [HLN.out]
            exact Rd.own (own_put4 S5.row S5.res (by decide) _ _ _ _) (by decide)
        · have d3 : (z.2 != 0) = true := bne_iff_ne.2 he
          have hRe := hRR.out
          rw [if_pos he] at hRe
          subst hRe
          clear hRR HR he
          go_wp2
          exact bodyPost_ret (v := .tuple #[.agg #[.string ⟨#[]⟩, .slice none 0 0, .string ⟨#[]⟩, .slice none 0 0], .int .i64 z.2]) (results_cell_slot rfl _ _ w.heap.size _ _ _ _ _ rfl rfl (arr_put4 S5.res _ _ _ _) Tryd.underlying38 rfl (by kernel_rfl)) rfl ⟨none, 0, none, 0, [], rfl, rd_nil _ _, ⟨⟨none, 0, rfl, by decide, rfl, fun h => absurd h (by decide)⟩, fun t ht => by cases ht⟩, rfl, ext_put4 S5.ext (Nat.le_refl _) _ _ _ _⟩
end Go.Proofs.YtmnpbpfeoackiaaDoor

namespace Go.Proofs.YtmnpbpfeoackiaaDoor
open Go.RowKit

theorem results_cells {P : Program} {fn : Func} {p q : Tmp} {ty ty2 : TypeId} (h : fn.results = #[.cell p ty, .cell q ty2]) (tmps : Array Value) (w : World) (g g2 : Nat) (t t2 : TypeId) (cs cs2 : Array Value) (fr fr2 : Nat × Nat) (d d2 : TypeDesc)
    (hp : tmps.getD p undef = .pointer (some ⟨g, 0, none⟩)) (hq : tmps.getD q undef = .pointer (some ⟨g2, 0, none⟩)) (hg : w.heap[g]? = some (.cells cs t fr)) (hg2 : w.heap[g2]? = some (.cells cs2 t2 fr2))
    (hu : P.underlying ty = some d) (hd : (match d with | .struct _ | .array _ _ => true | _ => false) = true) (hi : (P.info? ty).map (·.size) = some cs.size)
    (hu2 : P.underlying ty2 = some d2) (hd2 : (match d2 with | .struct _ | .array _ _ => true | _ => false) = true) (hi2 : (P.info? ty2).map (·.size) = some cs2.size) :
    (results fn tmps).run P w = .ok (.tuple #[.agg cs, .agg cs2]) w := by
  have hp' : tmps[p]?.getD undef = .pointer (some ⟨g, 0, none⟩) := by simpa using hp
  have hq' : tmps[q]?.getD undef = .pointer (some ⟨g2, 0, none⟩) := by simpa using hq
  simp [results, h, hp', hq', asAddr, run_loadVar_row w g t ty cs fr d hg hu hd hi, run_loadVar_row w g2 t2 ty2 cs2 fr2 d2 hg2 hu2 hd2 hi2]

def RTakeGot (r : TokL × RS) (w : World) (e : Ending) (w' : World) : Prop := ∃ A c, e = .returned (.tuple #[.agg #[.string (ofL r.1.id), .slice A r.1.links.length c, .string (ofL r.1.tag)], .agg #[.string (ofL r.2.1), .int .i64 r.2.2]]) ∧ w'.ownsRow w.heap.size 74 2 (.slice A r.1.links.length c) r.1.links.length (linkCells r.1.links) ∧ Ext w w'

set_option maxRecDepth 100000 in
set_option maxHeartbeats 2000000 in
theorem rbtake_any (x : RS) (w : World) (hs : x.1.length ≤ 1000000) :
    Calls Tryd.prog 72 #[.agg #[.string (ofL x.1), .int .i64 x.2]] w (RTakeGot (takeGet x) w) := by
  obtain ⟨W, hW, E0, A0, A1, A2, hsW⟩ : ∃ W, ((w.alloc (.cells #[.string (ofL x.1), .int .i64 x.2] 91)).alloc (.cells #[.string ⟨#[]⟩, .slice none 0 0, .string ⟨#[]⟩] 24)).alloc (.cells #[.string ⟨#[]⟩, .int .i64 0] 91) = W ∧ Ext w W ∧ Arr W w.heap.size 91 [.string (ofL x.1), .int .i64 x.2] ∧ Arr W (w.heap.size + 1) 24 [.string ⟨#[]⟩, .slice none 0 0, .string ⟨#[]⟩] ∧ Arr W (w.heap.size + 1 + 1) 91 [.string ⟨#[]⟩, .int .i64 0] ∧ W.heap.size = w.heap.size + 3 := by
    refine ⟨_, rfl, (((Ext.rfl' w).al _).al _).al _, ((Arr.new w _ [.string (ofL x.1), .int .i64 x.2]).alloc _).alloc _, ?_, ?_, by simp⟩
    · have q := (Arr.new (w.alloc (.cells #[.string (ofL x.1), .int .i64 x.2] 91)) 24 [.string ⟨#[]⟩, .slice none 0 0, .string ⟨#[]⟩]).alloc (.cells #[.string ⟨#[]⟩, .int .i64 0] 91)
      rw [World.size_alloc] at q
      exact q
    · have q := Arr.new ((w.alloc (.cells #[.string (ofL x.1), .int .i64 x.2] 91)).alloc (.cells #[.string ⟨#[]⟩, .slice none 0 0, .string ⟨#[]⟩] 24)) 91 [.string ⟨#[]⟩, .int .i64 0]
      rw [World.size_alloc, World.size_alloc] at q
      exact q
  have HW := Kp.mk hW
  have cT := r8text x 65536 W hs (by omega)
  have hml := rText_most x 65536
  have htk : takeGet x = if (rText x 65536).2.2 ≠ 0 then (tok0, (rText x 65536).2) else ((tokGetR (rText x 65536).1).1, rFail (rText x 65536).2 (tokGetR (rText x 65536).1).2) := rfl
  obtain ⟨⟨T1, T2⟩, hT⟩ : ∃ T, rText x 65536 = T := ⟨_, rfl⟩
  rw [hT] at cT htk
  rw [show ((65536 : Nat) : Int) = 65536 from rfl, hT] at hml
  dsimp only at cT htk hml
  unfold rv at cT
  replace cT := Kp.mk cT
  obtain ⟨R, hR⟩ : ∃ R, takeGet x = R := ⟨_, rfl⟩
  rw [hR] at htk ⊢
  have HK := Kp.mk htk
  have x0 := A0.cell 0; have x1 := A0.cell 1
  simp only [List.getElem?_cons_zero, List.getElem?_cons_succ] at x0 x1
  clear hW hR hT htk
  go_enter Tryd.func72, Tryd.ntmps72
  go_upto_region 1 with fail
  rw [HW.out]
  clear HW
  go_wp2_with fail
  refine cT.out.mono ?_
  rintro e w1 ⟨rfl, E1⟩
  have B1 := A1.ext E1 A1.lt
  have B2 := A2.ext E1 A2.lt
  have F1 := E0.tr E1
  have hs1 := E1.size
  clear A0 A1 A2 E0 E1 cT x0 x1
  obtain ⟨V, hV, EV, DV⟩ : ∃ V, w1.alloc (.cells #[.string (ofL T2.1), .int .i64 T2.2] 91) = V ∧ Ext w1 V ∧ Arr V w1.heap.size 91 [.string (ofL T2.1), .int .i64 T2.2] := ⟨_, rfl, (Ext.rfl' w1).al _, Arr.new w1 _ [.string (ofL T2.1), .int .i64 T2.2]⟩
  have C1 := B1.ext EV B1.lt
  have C2 := B2.ext EV B2.lt
  have F2 := F1.tr EV
  have HV := Kp.mk hV
  obtain ⟨rb, hrb⟩ : ∃ rb, w1.heap.size = rb := ⟨_, rfl⟩
  rw [hrb] at DV hs1
  have HRB := Kp.mk hrb
  clear hV hrb EV B1 B2 F1
  go_upto_region 2 with fail
  rw [HV.out, HRB.out]
  clear HV HRB
  have r0 := DV.cell 0; have r1 := DV.cell 1
  simp only [List.getElem?_cons_zero, List.getElem?_cons_succ] at r0 r1
  by_cases he : T2.2 = 0
  · have d1 : (T2.2 != 0) = false := by rw [he]; rfl
    have hRe := HK.out
    rw [if_neg (by rw [he]; simp)] at hRe
    have cG := fun W' => rtkget_any T1 W' (by omega)
    have cF := fun W' => r8fail T2 (tokGetR T1).2 W'
    obtain ⟨⟨⟨di, dl, dt⟩, de⟩, hd⟩ : ∃ r, tokGetR T1 = r := ⟨_, rfl⟩
    rw [hd] at hRe cG cF
    dsimp only at hRe cF
    obtain ⟨z, hz⟩ : ∃ z, rFail T2 de = z := ⟨_, rfl⟩
    rw [hz] at hRe cF
    unfold rv at cF
    subst hRe
    replace cG := Kp.mk cG
    replace cF := Kp.mk cF
    clear hd HK hz
    go_wp2_with fail
    refine (cG.out _).mono ?_
    rintro e w3 ⟨v3, rfl, Q3, E3⟩
    obtain ⟨A3v, c3v, rfl⟩ := own_slice Q3
    dsimp only at Q3 ⊢
    unfold tokV
    have P1 := C1.ext E3 C1.lt
    have P2 := C2.ext E3 C2.lt
    have D3 := DV.ext E3 DV.lt
    have F3 := F2.tr E3
    replace Q3 := own_more (base' := w.heap.size + 3) Q3 (by have := DV.lt; omega)
    clear C1 C2 DV F2 E3 cG r0 r1
    obtain ⟨V5, hV5, EV5, BV⟩ : ∃ V, w3.alloc (.cells #[.string (ofL di), .slice A3v dl.length c3v, .string (ofL dt)] 24) = V ∧ Ext w3 V ∧ Arr V w3.heap.size 24 [.string (ofL di), .slice A3v dl.length c3v, .string (ofL dt)] := ⟨_, rfl, (Ext.rfl' w3).al _, Arr.new w3 _ [.string (ofL di), .slice A3v dl.length c3v, .string (ofL dt)]⟩
    have P1 := P1.ext EV5 P1.lt
    have P2 := P2.ext EV5 P2.lt
    have D4 := D3.ext EV5 D3.lt
    have F4 := F3.tr EV5
    have Q4 := own_ext Q3 (fun j _ hj => EV5.block j hj)
    have hg3 := D3.lt
    have HV := Kp.mk hV5
    obtain ⟨ub, hub⟩ : ∃ ub, w3.heap.size = ub := ⟨_, rfl⟩
    rw [hub] at BV hg3
    have HUB := Kp.mk hub
    clear hV5 hub EV5 D3 F3 Q3
    go_upto_region 5 with fail
    rw [HV.out, HUB.out]
    clear HV HUB
    refine wp_region_tails (fun i v W => match i with
      | 0 => v = .agg #[.string (ofL di), .slice A3v dl.length c3v, .string (ofL dt)]
      | 1 => v = .agg #[.string (ofL T2.1), .int .i64 T2.2]
      | 2 => v = .int .i64 de
      | 3 => v = .agg #[.string (ofL z.1), .int .i64 z.2]
      | _ => True) 4 (by kernel_rfl) (by kernel_rfl) (by kernel_rfl) (by decide) (by kernel_rfl) (by kernel_rfl) (by kernel_rfl) ?_ ?_ ?_
    · intro i v W1 W2 e1 e2 h
      match i, h with
      | 0, h => exact h
      | 1, h => exact h
      | 2, h => exact h
      | 3, h => exact h
      | (i + 4), h => exact h
    · refine localsR_cons (fun u W hW hd => ?_) ?_
      · have q0 := (BV.ext hW BV.lt).cell 0; have q1 := (BV.ext hW BV.lt).cell 1; have q2 := (BV.ext hW BV.lt).cell 2
        simp only [List.getElem?_cons_zero, List.getElem?_cons_succ] at q0 q1 q2
        exact leaves_val rfl (v := .agg #[.string (ofL di), .slice A3v dl.length c3v, .string (ofL dt)]) (by go_simp) rfl
      refine localsR_cons (fun u W hW hd => ?_) ?_
      · have q0 := (D4.ext hW D4.lt).cell 0; have q1 := (D4.ext hW D4.lt).cell 1
        simp only [List.getElem?_cons_zero, List.getElem?_cons_succ] at q0 q1
        exact leaves_val rfl (v := .agg #[.string (ofL T2.1), .int .i64 T2.2]) (by go_simp) rfl
      refine localsR_cons (fun u W hW hd => leaves_val rfl (v := .int .i64 de) (by go_simp) rfl) ?_
      refine localsR_cons (fun u W hW hd => ?_) localsR_nil
      · have h1 : u 1 = _ := hd 1 (by kernel_rfl)
        have h2 : u 2 = _ := hd 2 (by kernel_rfl)
        exact leaves_call rfl (f := 61) (args := #[.agg #[.string (ofL T2.1), .int .i64 T2.2], .int .i64 de]) (by go_simp) ((cF.out W).mono (by rintro e9 W9 ⟨rfl, h9⟩; exact ⟨_, rfl, h9, rfl⟩))
    · intro u W6 hW hV
      have h0 : u 0 = _ := hV 0 (by decide)
      have h3 : u 3 = _ := hV 3 (by decide)
      have C1 := P1.ext hW P1.lt
      have C2 := P2.ext hW P2.lt
      have F6 := F4.tr hW
      have Q6 := own_ext Q4 (fun j _ hj => hW.block j hj)
      clear hV hW P1 P2 BV D4 F4 Q4 cF
      have y0 := C1.cell 0; have y1 := C1.cell 1; have y2 := C1.cell 2
      have z0 := C1.frozen 0; have z1 := C1.frozen 1; have z2 := C1.frozen 2
      have u0 := C2.cell 0; have u1 := C2.cell 1
      have v0 := C2.frozen 0; have v1 := C2.frozen 1
      simp only [List.getElem?_cons_zero, List.getElem?_cons_succ] at y0 y1 y2 u0 u1
      go_simp
      go_wp2
      exact bodyPost_ret (v := .tuple #[.agg #[.string (ofL di), .slice A3v dl.length c3v, .string (ofL dt)], .agg #[.string (ofL z.1), .int .i64 z.2]]) (results_cells rfl _ _ (w.heap.size + 1) (w.heap.size + 1 + 1) _ _ _ _ _ _ _ _ rfl rfl (((arr_put3 C1 (.string (ofL di)) (.slice A3v dl.length c3v) (.string (ofL dt))).other (g' := w.heap.size + 1 + 1) (j := 0) (.string (ofL z.1)) (by omega)).other (g' := w.heap.size + 1 + 1) (j := 1) (.int .i64 z.2) (by omega)) (((((C2.other (g' := w.heap.size + 1) (j := 0) (.string (ofL di)) (by omega)).other (g' := w.heap.size + 1) (j := 1) (.slice A3v dl.length c3v) (by omega)).other (g' := w.heap.size + 1) (j := 2) (.string (ofL dt)) (by omega)).set 0 (.string (ofL z.1))).set 1 (.int .i64 z.2)) Tryd.underlying24 rfl (by kernel_rfl) Tryd.underlying91 rfl (by kernel_rfl)) rfl ⟨A3v, c3v, rfl, own_more (own_set_other (own_set_other (own_put3 Q6 C1 (by decide) _ _ _) (((C2.other (g' := w.heap.size + 1) (j := 0) (.string (ofL di)) (by omega)).other (g' := w.heap.size + 1) (j := 1) (.slice A3v dl.length c3v) (by omega)).other (g' := w.heap.size + 1) (j := 2) (.string (ofL dt)) (by omega)) (by decide) _) ((((C2.other (g' := w.heap.size + 1) (j := 0) (.string (ofL di)) (by omega)).other (g' := w.heap.size + 1) (j := 1) (.slice A3v dl.length c3v) (by omega)).other (g' := w.heap.size + 1) (j := 2) (.string (ofL dt)) (by omega)).set 0 (.string (ofL z.1))) (by decide) _) (by omega), ((ext_put3 F6 (by omega) _ _ _).st (p := ⟨w.heap.size + 1 + 1, 0, none⟩) (by show w.heap.size ≤ w.heap.size + 1 + 1; omega) _).st (p := ⟨w.heap.size + 1 + 1, 1, none⟩) (by show w.heap.size ≤ w.heap.size + 1 + 1; omega) _⟩
  · have d1 : (T2.2 != 0) = true := bne_iff_ne.2 he
    have hRe := HK.out
    rw [if_pos he] at hRe
    subst hRe
    clear HK he
    have y0 := C1.cell 0; have y1 := C1.cell 1; have y2 := C1.cell 2
    have z0 := C1.frozen 0; have z1 := C1.frozen 1; have z2 := C1.frozen 2
    have u0 := C2.cell 0; have u1 := C2.cell 1
    have v0 := C2.frozen 0; have v1 := C2.frozen 1
    simp only [List.getElem?_cons_zero, List.getElem?_cons_succ] at y0 y1 y2 u0 u1
    go_upto_region 3 with fail
    go_region
    go_wp2
    exact bodyPost_ret (v := .tuple #[.agg #[.string ⟨#[]⟩, .slice none 0 0, .string ⟨#[]⟩], .agg #[.string (ofL T2.1), .int .i64 T2.2]]) (results_cells rfl _ _ (w.heap.size + 1) (w.heap.size + 1 + 1) _ _ _ _ _ _ _ _ rfl rfl (((arr_put3 C1 (.string ⟨#[]⟩) (.slice none 0 0) (.string ⟨#[]⟩)).other (g' := w.heap.size + 1 + 1) (j := 0) (.string (ofL T2.1)) (by omega)).other (g' := w.heap.size + 1 + 1) (j := 1) (.int .i64 T2.2) (by omega)) (((((C2.other (g' := w.heap.size + 1) (j := 0) (.string ⟨#[]⟩) (by omega)).other (g' := w.heap.size + 1) (j := 1) (.slice none 0 0) (by omega)).other (g' := w.heap.size + 1) (j := 2) (.string ⟨#[]⟩) (by omega)).set 0 (.string (ofL T2.1))).set 1 (.int .i64 T2.2)) Tryd.underlying24 rfl (by kernel_rfl) Tryd.underlying91 rfl (by kernel_rfl)) rfl ⟨none, 0, rfl, World.ownsRow_nil _ _ _ _, (((ext_put3 F2 (by omega) _ _ _).st (p := ⟨w.heap.size + 1 + 1, 0, none⟩) (by show w.heap.size ≤ w.heap.size + 1 + 1; omega) _).st (p := ⟨w.heap.size + 1 + 1, 1, none⟩) (by show w.heap.size ≤ w.heap.size + 1 + 1; omega) _).dr⟩
end Go.Proofs.YtmnpbpfeoackiaaDoor

namespace Go.Proofs.YtmnpbpfeoackiaaDoor
open Go.RowKit

/-- While tokens are read: the result's block, the bundle's, the reader's. -/
structure RbSt (w W : World) (yb : Nat) (id tag : List UInt8) (A9 : Option Addr) (c9 : Nat) (l : List LinkL) (vm : Value) (ts : List TokA) (y : RS) : Prop where
  ext : Ext w W
  res : Arr W w.heap.size 38 [.string ⟨#[]⟩, .slice none 0 0, .string ⟨#[]⟩, .slice none 0 0]
  bun : Arr W (w.heap.size + 1) 38 [.string (ofL id), .slice A9 l.length c9, .string (ofL tag), vm]
  rd : Arr W yb 91 [.string (ofL y.1), .int .i64 y.2]
  lnk : W.ownsRow (w.heap.size + 2) 74 2 (.slice A9 l.length c9) l.length (linkCells l)
  own : ∀ t ∈ ts, OwnTok W (w.heap.size + 2) t
  row : W.ownsRow (w.heap.size + 2) 24 3 vm ts.length (toksCells ts)
section
variable {w W W' : World} {yb : Nat} {id tag : List UInt8} {A9 : Option Addr} {c9 : Nat} {l : List LinkL} {vm : Value} {ts : List TokA} {y : RS}
theorem RbSt.up (h : RbSt w W yb id tag A9 c9 l vm ts y) (e : Ext W W') : RbSt w W' yb id tag A9 c9 l vm ts y :=
  ⟨h.ext.tr e, h.res.ext e h.res.lt, h.bun.ext e h.bun.lt, h.rd.ext e h.rd.lt, own_ext h.lnk (fun j _ hj => e.block j hj), fun t ht => (h.own t ht).ext e, own_ext h.row (fun j _ hj => e.block j hj)⟩
theorem RbSt.grow (h : RbSt w W yb id tag A9 c9 l vm ts y) (hg : W.grownBy W' vm.ownBlock) :
    Ext w W' ∧ Arr W' w.heap.size 38 [.string ⟨#[]⟩, .slice none 0 0, .string ⟨#[]⟩, .slice none 0 0] ∧ Arr W' (w.heap.size + 1) 38 [.string (ofL id), .slice A9 l.length c9, .string (ofL tag), vm] ∧ Arr W' yb 91 [.string (ofL y.1), .int .i64 y.2] ∧
    W'.ownsRow (w.heap.size + 2) 74 2 (.slice A9 l.length c9) l.length (linkCells l) ∧ ∀ t ∈ ts, OwnTok W' (w.heap.size + 2) t :=
  ⟨h.ext.own hg h.row (by omega), arr_kept_type h.res h.row (by decide) hg, arr_kept_type h.bun h.row (by decide) hg, arr_kept_type h.rd h.row (by decide) hg, own_kept_type h.lnk h.row (by decide) hg, fun t ht => own_kept_type (h.own t ht) h.row (by decide) hg⟩
/-- The reader is set anew. -/
theorem RbSt.put (h : RbSt w W yb id tag A9 c9 l vm ts y) (hy : w.heap.size + 1 < yb) (z : RS) : RbSt w ((W.setCell ⟨yb, 0, none⟩ (.string (ofL z.1))).setCell ⟨yb, 1, none⟩ (.int .i64 z.2)) yb id tag A9 c9 l vm ts z :=
  ⟨(h.ext.st (p := ⟨yb, 0, none⟩) (by show w.heap.size ≤ yb; omega) _).st (p := ⟨yb, 1, none⟩) (by show w.heap.size ≤ yb; omega) _, (h.res.other _ (by omega)).other _ (by omega), (h.bun.other _ (by omega)).other _ (by omega), (h.rd.set 0 _).set 1 _,
   own_set_other (own_set_other h.lnk h.rd (by decide) _) (h.rd.set 0 _) (by decide) _, fun t ht => own_set_other (own_set_other (h.own t ht) h.rd (by decide) _) (h.rd.set 0 _) (by decide) _, own_set_other (own_set_other h.row h.rd (by decide) _) (h.rd.set 0 _) (by decide) _⟩
end
/-- Between two rounds. -/
def RbI (w W : World) (yb : Nat) (id tag : List UInt8) (A9 : Option Addr) (c9 : Nat) (l : List LinkL) (y1 : RS) (k : Nat) : Prop := ∃ Am cm ts, ts.map TokA.plain = (takesGet k y1).1 ∧ RbSt w W yb id tag A9 c9 l (.slice Am k cm) ts (takesGet k y1).2

theorem tr_boxes (w : World) (a b c x y : Value) : ∃ V, (w.alloc (.cells #[a, b, c] 24)).alloc (.cells #[x, y] 91) = V ∧ Ext w V ∧ V.heap.size = w.heap.size + 2 ∧ Arr V w.heap.size 24 [a, b, c] ∧ Arr V (w.heap.size + 1) 91 [x, y] := by
  refine ⟨_, rfl, ((Ext.rfl' w).al _).al _, by simp, (Arr.new w 24 [a, b, c]).alloc _, ?_⟩
  have q := Arr.new (w.alloc (.cells #[a, b, c] 24)) 91 [x, y]
  rw [World.size_alloc] at q
  exact q

set_option maxRecDepth 100000 in
set_option maxHeartbeats 4000000 in
theorem rbget_any (s : List UInt8) (w : World) (hs : s.length ≤ 1000000) : Calls Tryd.prog 27 #[.string (ofL s)] w (BunGot w (bunGetR s)) := by
  obtain ⟨W, hW, E0, A0⟩ : ∃ W, w.alloc (.cells #[.string ⟨#[]⟩, .slice none 0 0, .string ⟨#[]⟩, .slice none 0 0] 38) = W ∧ Ext w W ∧ Arr W w.heap.size 38 [.string ⟨#[]⟩, .slice none 0 0, .string ⟨#[]⟩, .slice none 0 0] := ⟨_, rfl, (Ext.rfl' w).al _, Arr.new w _ [.string ⟨#[]⟩, .slice none 0 0, .string ⟨#[]⟩, .slice none 0 0]⟩
  have HW := Kp.mk hW
  have hW1 : W.heap.size = w.heap.size + 1 := by rw [← hW]; simp
  have zs : (ofL s).size = s.length := size_ofL _
  obtain ⟨R, hR⟩ : ∃ R, bunGetR s = R := ⟨_, rfl⟩
  rw [hR]
  unfold bunGetR at hR
  have y0 := A0.cell 0; have y1 := A0.cell 1; have y2 := A0.cell 2; have y3 := A0.cell 3
  have z0 := A0.frozen 0; have z1 := A0.frozen 1; have z2 := A0.frozen 2; have z3 := A0.frozen 3
  simp only [List.getElem?_cons_zero, List.getElem?_cons_succ] at y0 y1 y2 y3
  clear hW
  by_cases g1 : 65536 < s.length
  · have d1 : decide ((65536 : Int) < (s.length : Int)) = true := by simp; omega
    rw [if_pos g1] at hR
    subst hR
    clear g1 hW1
    go_enter Tryd.func27, Tryd.ntmps27
    go_upto_region 1 with fail
    rw [HW.out]
    clear HW
    go_wp2
    exact bodyPost_ret (v := .tuple #[.agg #[.string ⟨#[]⟩, .slice none 0 0, .string ⟨#[]⟩, .slice none 0 0], .int .i64 3]) (results_cell_slot rfl _ _ w.heap.size _ _ _ _ _ rfl rfl (arr_put4 A0 _ _ _ _) Tryd.underlying38 rfl (by kernel_rfl)) rfl ⟨none, 0, none, 0, [], rfl, rd_nil _ _, ⟨⟨none, 0, rfl, by decide, rfl, fun h => absurd h (by decide)⟩, fun t ht => by cases ht⟩, rfl, ext_put4 E0 (Nat.le_refl _) _ _ _ _⟩
  · have d1 : decide ((65536 : Int) < (s.length : Int)) = false := by simp; omega
    rw [if_neg g1] at hR
    have hl0 := takeGet_len (s, 0)
    unfold bunHeadGet at hR
    have cK := fun W1 => rbtake_any (s, 0) W1 hs
    obtain ⟨⟨⟨ti, tl, tt⟩, yy0⟩, hT0⟩ : ∃ r, takeGet (s, 0) = r := ⟨_, rfl⟩
    rw [hT0] at hR hl0 cK
    dsimp only at hR hl0 cK
    have hl1 := rNum_len yy0 8
    have hn8 := rNum_le yy0 8
    have cN := fun W1 => r8num yy0 8 W1 (by omega)
    obtain ⟨⟨nn, yy1⟩, hN0⟩ : ∃ N, rNum yy0 8 = N := ⟨_, rfl⟩
    rw [hN0] at hR hl1 hn8 cN
    dsimp only at hR hl1 hn8 cN
    unfold rv at cN
    have HR := Kp.mk hR
    replace cK := Kp.mk cK
    replace cN := Kp.mk cN
    have hLL := Kp.mk (fun k => takesGet_len k yy1)
    have hwr : IntKind.i64.wrap (nn : Int) = (nn : Int) := IntWalk.i64_in _ (by omega)
    obtain ⟨W1, hW1e, E1, B1⟩ : ∃ W1, W.alloc (.cells #[.string ⟨#[]⟩, .slice none 0 0, .string ⟨#[]⟩, .slice none 0 0] 38) = W1 ∧ Ext W W1 ∧ Arr W1 W.heap.size 38 [.string ⟨#[]⟩, .slice none 0 0, .string ⟨#[]⟩, .slice none 0 0] := ⟨_, rfl, (Ext.rfl' W).al _, Arr.new W _ [.string ⟨#[]⟩, .slice none 0 0, .string ⟨#[]⟩, .slice none 0 0]⟩
    rw [hW1] at B1
    have A1 := A0.ext E1 A0.lt
    have F1 := E0.tr E1
    have HW1 := Kp.mk hW1e
    have HS1 := Kp.mk hW1
    clear hR hT0 hN0 g1 hW1e E0 E1 A0 hW1
    go_enter Tryd.func27, Tryd.ntmps27
    go_upto_region 1 with fail
    rw [HW.out]
    clear HW
    go_upto_region 4 with fail
    rw [HW1.out, HS1.out]
    clear HW1 HS1 y0 y1 y2 y3 z0 z1 z2 z3
    go_wp2_with fail
    refine (cK.out _).mono ?_
    rintro e w2 ⟨A9, c9, rfl, Q2, E2⟩
    have A2 := A1.ext E2 A1.lt
    have B2 := B1.ext E2 B1.lt
    have F2 := F1.tr E2
    have hs2 := E2.size
    replace Q2 := own_more (base' := w.heap.size + 2) Q2 (by have := B1.lt; omega)
    dsimp only at Q2 ⊢
    clear A1 B1 F1 E2 cK
    obtain ⟨V, hV, EV, hsV, TV, DV⟩ := tr_boxes w2 (.string (ofL ti)) (.slice A9 tl.length c9) (.string (ofL tt)) (.string (ofL yy0.1)) (.int .i64 yy0.2)
    have HV := Kp.mk hV
    have A3 := A2.ext EV A2.lt
    have B3 := B2.ext EV B2.lt
    have F3 := F2.tr EV
    have Q3 := own_ext Q2 (fun j _ hj => EV.block j hj)
    have hlb := B2.lt
    obtain ⟨tb, htb⟩ : ∃ tb, w2.heap.size = tb := ⟨_, rfl⟩
    rw [htb] at TV DV hlb
    have HTB := Kp.mk htb
    clear hV EV A2 B2 F2 Q2 hsV htb hs2
    go_upto_region 5 with fail
    rw [HV.out, HTB.out]
    clear HV HTB
    have q0 := TV.cell 0; have q1 := TV.cell 1; have q2 := TV.cell 2
    have y0 := B3.cell 0; have y1 := B3.cell 1; have y2 := B3.cell 2
    have z0 := B3.frozen 0; have z1 := B3.frozen 1; have z2 := B3.frozen 2
    simp only [List.getElem?_cons_zero, List.getElem?_cons_succ] at q0 q1 q2 y0 y1 y2
    have S4 : RbSt w (((V.setCell ⟨w.heap.size + 1, 0, none⟩ (.string (ofL ti))).setCell ⟨w.heap.size + 1, 1, none⟩ (.slice A9 tl.length c9)).setCell ⟨w.heap.size + 1, 2, none⟩ (.string (ofL tt))) (tb + 1) ti tt A9 c9 tl (.slice none 0 0) [] yy0 :=
      ⟨ext_put3 F3 (by omega) _ _ _, ((A3.other _ (by omega)).other _ (by omega)).other _ (by omega), ((B3.set 0 _).set 1 _).set 2 _, ((DV.other _ (by omega)).other _ (by omega)).other _ (by omega), own_put3 Q3 B3 (by decide) _ _ _, fun t ht => (by cases ht), World.ownsRow_nil _ _ _ _⟩
    obtain ⟨W4, hW4⟩ : ∃ W4, (((V.setCell ⟨w.heap.size + 1, 0, none⟩ (.string (ofL ti))).setCell ⟨w.heap.size + 1, 1, none⟩ (.slice A9 tl.length c9)).setCell ⟨w.heap.size + 1, 2, none⟩ (.string (ofL tt))) = W4 := ⟨_, rfl⟩
    rw [hW4] at S4
    have HW4 := Kp.mk hW4
    clear hW4 A3 B3 TV DV F3 Q3
    go_upto_region 6 with fail
    rw [HW4.out]
    clear HW4 q0 q1 q2 y0 y1 y2 z0 z1 z2
    have r0 := S4.rd.cell 0; have r1 := S4.rd.cell 1
    simp only [List.getElem?_cons_zero, List.getElem?_cons_succ] at r0 r1
    go_wp2_with fail
    refine (cN.out _).mono ?_
    rintro e w5 ⟨rfl, E5⟩
    have S5 := S4.up E5
    clear S4 E5 r0 r1 cN
    obtain ⟨V6, hV6, EV6, D6⟩ : ∃ V, w5.alloc (.cells #[.string (ofL yy1.1), .int .i64 yy1.2] 91) = V ∧ Ext w5 V ∧ Arr V w5.heap.size 91 [.string (ofL yy1.1), .int .i64 yy1.2] := ⟨_, rfl, (Ext.rfl' w5).al _, Arr.new w5 _ [.string (ofL yy1.1), .int .i64 yy1.2]⟩
    have S6' := S5.up EV6
    have hyb := S5.rd.lt
    have HV6 := Kp.mk hV6
    obtain ⟨yb, hybe⟩ : ∃ yb, w5.heap.size = yb := ⟨_, rfl⟩
    rw [hybe] at D6 hyb
    have HYB := Kp.mk hybe
    have hy : w.heap.size + 1 < yb := by omega
    have S6 : RbSt w V6 yb ti tt A9 c9 tl (.slice none 0 0) [] yy1 := ⟨S6'.ext, S6'.res, S6'.bun, D6, S6'.lnk, S6'.own, S6'.row⟩
    clear hV6 hybe EV6 S5 S6' D6 hyb hlb
    go_upto_region 7 with fail
    rw [HV6.out, HYB.out]
    clear HV6 HYB
    go_wp2_with fail
    go_loopw [9] (fun i wr => ∃ k : Nat, k ≤ nn ∧ i = .int .i64 k ∧ RbI w wr yb ti tt A9 c9 tl yy1 k) (fun i _ => nn - (intOf i).toNat)
    case atStart => exact ⟨0, by omega, rfl, none, 0, [], rfl, S6⟩
    case round =>
      clear S6
      obtain ⟨k, hk, rfl, hI⟩ := hrel
      by_cases hlt : k < nn
      · have hlk := hLL.out k
        have hln := length_takesGet k yy1
        obtain ⟨Am, cm, ts, hts, hS⟩ := hI
        have hnx := takesGet_step k yy1
        obtain ⟨⟨l0, y⟩, hly⟩ : ∃ ly, takesGet k yy1 = ly := ⟨_, rfl⟩
        rw [hly] at hS hlk hts hnx hln
        dsimp only at hS hlk hts hnx hln
        have cL := fun W1 => rbtake_any y W1 (by omega)
        obtain ⟨⟨⟨di, dl, dt⟩, y'⟩, hx⟩ : ∃ X, takeGet y = X := ⟨_, rfl⟩
        rw [hx] at hnx cL
        dsimp only at hnx cL
        replace cL := Kp.mk cL
        have htl : ts.length = k := by rw [← hln, ← hts, List.length_map]
        replace hnx := Kp.mk hnx
        replace hts := Kp.mk hts
        subst htl
        clear hx hly hlk hln
        have r0 := hS.rd.cell 0; have r1 := hS.rd.cell 1
        simp only [List.getElem?_cons_zero, List.getElem?_cons_succ] at r0 r1
        have hbw : w.heap.size + 2 ≤ wr.heap.size := by have := hS.bun.lt; omega
        go_wp2_with fail
        refine (cL.out _).mono ?_
        rintro e w7 ⟨A8, c8, rfl, Q7, E7⟩
        have S7 := hS.up E7
        replace Q7 := own_more (base' := w.heap.size + 2) Q7 hbw
        dsimp only at Q7 ⊢
        clear hS E7 cL r0 r1 hbw
        obtain ⟨V8, hV8, EV8, hs8, T8, D8⟩ := tr_boxes w7 (.string (ofL di)) (.slice A8 dl.length c8) (.string (ofL dt)) (.string (ofL y'.1)) (.int .i64 y'.2)
        have HV8 := Kp.mk hV8
        have S8 := S7.up EV8
        have Q8 := own_ext Q7 (fun j _ hj => EV8.block j hj)
        have hlb := S7.bun.lt
        have hly := S7.rd.lt
        obtain ⟨ub, hub⟩ : ∃ ub, w7.heap.size = ub := ⟨_, rfl⟩
        rw [hub] at T8 D8 hlb hly
        have HUB := Kp.mk hub
        clear hV8 EV8 hs8 hub S7 Q7
        go_upto_region 11 with fail
        rw [HV8.out, HUB.out]
        clear HV8 HUB
        have b3 := S8.bun.cell 3
        have q0 := T8.cell 0; have q1 := T8.cell 1; have q2 := T8.cell 2
        simp only [List.getElem?_cons_zero, List.getElem?_cons_succ] at b3 q0 q1 q2
        have own5 := S8.row
        have hs5 := S8.bun.lt
        go_upto_region 12 with (at_builtin; refine wpl_app Tryd.elemTok rfl _ _ rfl own5 1 rfl rfl rfl (oneCell_toks [⟨di, dt, A8, c8, dl⟩]) (by omega) (by omega) (by omega) ?_; intro v6 w6 own6 hg6; obtain ⟨A6, c6, hv6⟩ := own_slice own6; subst hv6; have G6 := S8.grow hg6; have Q6 := own_kept_type Q8 own5 (by decide) hg6; have D6 := arr_kept_type D8 own5 (by decide) hg6; have t1 := G6.2.2.1.cell 3; have z1 := G6.2.2.1.frozen 3; clear own5 hg6 S8 T8 D8 Q8 q0 q1 q2 b3 hs5; simp only [List.getElem?_cons_zero, List.getElem?_cons_succ] at t1)
        have S9 : RbSt w (w6.setCell ⟨w.heap.size + 1, 3, none⟩ (.slice A6 (ts.length + 1) c6)) yb ti tt A9 c9 tl (.slice A6 (ts.length + 1) c6) (ts ++ [⟨di, dt, A8, c8, dl⟩]) y :=
          ⟨G6.1.st (p := ⟨w.heap.size + 1, 3, none⟩) (by show w.heap.size ≤ w.heap.size + 1; omega) _, G6.2.1.other (g' := w.heap.size + 1) (j := 3) _ (by omega), G6.2.2.1.set 3 _, G6.2.2.2.1.other (g' := w.heap.size + 1) (j := 3) _ (by omega),
           own_set_other G6.2.2.2.2.1 G6.2.2.1 (by decide) _, fun t ht => by
             rcases List.mem_append.1 ht with ht | ht
             · exact own_set_other (G6.2.2.2.2.2 t ht) G6.2.2.1 (by decide) _
             · obtain rfl := List.mem_singleton.1 ht
               exact own_set_other Q6 G6.2.2.1 (by decide) _,
           own_eq (own_set_other own6 G6.2.2.1 (by decide) _) (toksCells_append ts [⟨di, dt, A8, c8, dl⟩]).symm (by simp)⟩
        have D7 := D6.other (g' := w.heap.size + 1) (j := 3) (.slice A6 (ts.length + 1) c6) (by omega)
        obtain ⟨W7, hW7⟩ : ∃ W7, w6.setCell ⟨w.heap.size + 1, 3, none⟩ (.slice A6 (ts.length + 1) c6) = W7 := ⟨_, rfl⟩
        rw [hW7] at S9 D7 ⊢
        clear hW7 own6 G6 Q6 D6 t1 z1
        have q0 := D7.cell 0; have q1 := D7.cell 1
        have r0 := S9.rd.cell 0; have r1 := S9.rd.cell 1; have z0 := S9.rd.frozen 0; have z1 := S9.rd.frozen 1
        simp only [List.getElem?_cons_zero, List.getElem?_cons_succ] at q0 q1 r0 r1
        have S10 := S9.put hy y'
        have S11 := Kp.mk (show RbI w ((W7.setCell ⟨yb, 0, none⟩ (.string (ofL y'.1))).setCell ⟨yb, 1, none⟩ (.int .i64 y'.2)) yb ti tt A9 c9 tl yy1 (ts.length + 1) from ⟨A6, c6, ts ++ [⟨di, dt, A8, c8, dl⟩], by rw [hnx.out, List.map_append, hts.out]; rfl, by rw [hnx.out]; exact S10⟩)
        clear S9 D7 S10 hnx hts
        go_wp2
        go_roundw
        case rel => exact ⟨ts.length + 1, by omega, by go_num, S11.out⟩
        case measure => simp [intOf]; omega
      · obtain rfl : k = nn := by omega
        have hln := length_takesGet k yy1
        obtain ⟨Am, cm, ts, hts, hS⟩ := hI
        obtain ⟨⟨l0, y⟩, hly⟩ : ∃ ly, takesGet k yy1 = ly := ⟨_, rfl⟩
        have hRR := HR.out
        rw [hly] at hS hts hln hRR
        dsimp only at hS hts hln hRR
        have cE := fun W1 => r8end y W1
        obtain ⟨z, hz⟩ : ∃ z, rEnd y = z := ⟨_, rfl⟩
        rw [hz] at hRR cE
        unfold rv at cE
        replace cE := Kp.mk cE
        replace hRR := Kp.mk hRR
        replace hts := Kp.mk hts
        clear hly hz
        have HLN := Kp.mk hln
        clear hln
        have r0 := hS.rd.cell 0; have r1 := hS.rd.cell 1
        simp only [List.getElem?_cons_zero, List.getElem?_cons_succ] at r0 r1
        go_wp2_with fail
        refine (cE.out _).mono ?_
        rintro e w8 ⟨rfl, E8⟩
        have S8 := hS.up E8
        clear hS E8 cE r0 r1
        have r0 := S8.rd.cell 0; have r1 := S8.rd.cell 1; have z0 := S8.rd.frozen 0; have z1 := S8.rd.frozen 1
        simp only [List.getElem?_cons_zero, List.getElem?_cons_succ] at r0 r1
        have S9 := S8.put hy z
        obtain ⟨W9, hW9⟩ : ∃ W9, (w8.setCell ⟨yb, 0, none⟩ (.string (ofL z.1))).setCell ⟨yb, 1, none⟩ (.int .i64 z.2) = W9 := ⟨_, rfl⟩
        rw [hW9] at S9
        have HW9 := Kp.mk hW9
        clear hW9 S8
        go_upto_region 14 with fail
        rw [HW9.out]
        clear HW9 r0 r1 z0 z1
        have r0 := S9.rd.cell 0; have r1 := S9.rd.cell 1
        have q0 := S9.bun.cell 0; have q1 := S9.bun.cell 1; have q2 := S9.bun.cell 2; have q3 := S9.bun.cell 3
        have y0 := S9.res.cell 0; have y1 := S9.res.cell 1; have y2 := S9.res.cell 2; have y3 := S9.res.cell 3
        have z0 := S9.res.frozen 0; have z1 := S9.res.frozen 1; have z2 := S9.res.frozen 2; have z3 := S9.res.frozen 3
        simp only [List.getElem?_cons_zero, List.getElem?_cons_succ] at r0 r1 q0 q1 q2 q3 y0 y1 y2 y3
        by_cases he : z.2 = 0
        · have d3 : (z.2 != 0) = false := by rw [he]; rfl
          have hRe := hRR.out
          rw [if_neg (by rw [he]; simp)] at hRe
          subst hRe
          clear hRR HR he
          go_wp2
          refine bodyPost_ret (v := .tuple #[.agg #[.string (ofL ti), .slice A9 tl.length c9, .string (ofL tt), .slice Am k cm], .int .i64 0]) (results_cell_slot rfl _ _ w.heap.size _ _ _ _ _ rfl rfl (arr_put4 S9.res _ _ _ _) Tryd.underlying38 rfl (by kernel_rfl)) rfl ⟨A9, c9, Am, cm, ts, ?_, own_links (own_put4 S9.lnk S9.res (by decide) _ _ _ _) rfl, ⟨?_, fun t ht => own_links (own_put4 (S9.own t ht) S9.res (by decide) _ _ _ _) rfl⟩, hts.out, ext_put4 S9.ext (Nat.le_refl _) _ _ _ _⟩
          · rw [← HLN.out]; rfl
          · dsimp only
            rw [HLN.out]
            exact Rd.own (own_put4 S9.row S9.res (by decide) _ _ _ _) (by decide)
        · have d3 : (z.2 != 0) = true := bne_iff_ne.2 he
          have hRe := hRR.out
          rw [if_pos he] at hRe
          subst hRe
          clear hRR HR he
          go_upto_region 15 with fail
          go_region
          go_wp2
          exact bodyPost_ret (v := .tuple #[.agg #[.string ⟨#[]⟩, .slice none 0 0, .string ⟨#[]⟩, .slice none 0 0], .int .i64 z.2]) (results_cell_slot rfl _ _ w.heap.size _ _ _ _ _ rfl rfl (arr_put4 S9.res _ _ _ _) Tryd.underlying38 rfl (by kernel_rfl)) rfl ⟨none, 0, none, 0, [], rfl, rd_nil _ _, ⟨⟨none, 0, rfl, by decide, rfl, fun h => absurd h (by decide)⟩, fun t ht => by cases ht⟩, rfl, (ext_put4 S9.ext (Nat.le_refl _) _ _ _ _).dr⟩
end Go.Proofs.YtmnpbpfeoackiaaDoor
