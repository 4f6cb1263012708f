/-
  The reference's token: Get. Condition: the text is at most 1000000 bytes.
-/
import Derived.Test.YtmnpbpfeoackiaaDoorTk4
namespace Go.Proofs.YtmnpbpfeoackiaaDoor
open Go.RowKit

/-- A link is read, in the reference's order. -/
def rlinkGet (b : UInt8) (y : RS) : LinkL × RS :=
  if b = 0 then (((rText y 2048).1, []), (rText y 2048).2)
  else if b = 1 then (((rText y 4144).1, (rText (rText y 4144).2 4144).1), if (rText (rText y 4144).2 4144).1 = [] then rFail (rText (rText y 4144).2 4144).2 2 else (rText (rText y 4144).2 4144).2)
  else (([], []), rFail y 2)
theorem linkGet_r (x : RS) : linkGet x = rlinkGet (rByte x).1 (rByte x).2 := rfl
theorem rFail_ne (y : RS) : (rFail y 2).2 ≠ 0 := by
  unfold rFail
  split
  · rename_i h
    rcases h with h | h
    · exact h
    · exact absurd h (by decide)
  · decide
theorem rFail2 (y : RS) : rFail (rFail y 2) 2 = rFail y 2 := rFail_bad 2 (rFail_ne y)
/-- The reference while it reads links: the result's block, the token's, the reader's. -/
structure RgSt (w W : World) (rb : Nat) (id : List UInt8) (v : Value) (l : List LinkL) (y : RS) : Prop where
  ext : Ext w W
  res : Arr W w.heap.size 24 [.string ⟨#[]⟩, .slice none 0 0, .string ⟨#[]⟩]
  tok : Arr W (w.heap.size + 1) 24 [.string (ofL id), v, .string ⟨#[]⟩]
  rd : Arr W rb 91 [.string (ofL y.1), .int .i64 y.2]
  own : W.ownsRow (w.heap.size + 2) 74 2 v l.length (linkCells l)
section
variable {w W W' : World} {rb : Nat} {id : List UInt8} {v : Value} {l : List LinkL} {y : RS}
theorem RgSt.up (h : RgSt w W rb id v l y) (e : Ext W W') : RgSt w W' rb id v l y :=
  ⟨h.ext.tr e, h.res.ext e h.res.lt, h.tok.ext e h.tok.lt, h.rd.ext e h.rd.lt, own_ext h.own (fun j _ hj => e.block j hj)⟩
/-- The reader is turned. -/
theorem RgSt.put (h : RgSt w W rb id v l y) (hr : w.heap.size + 1 < rb) (z : RS) : RgSt w ((W.setCell ⟨rb, 0, none⟩ (.string (ofL z.1))).setCell ⟨rb, 1, none⟩ (.int .i64 z.2)) rb id v l z :=
  ⟨(h.ext.st (p := ⟨rb, 0, none⟩) (by show w.heap.size ≤ rb; omega) _).st (p := ⟨rb, 1, none⟩) (by show w.heap.size ≤ rb; omega) _, (h.res.other _ (by omega)).other _ (by omega), (h.tok.other _ (by omega)).other _ (by omega), (h.rd.set 0 _).set 1 _,
   own_set_other (own_set_other h.own h.rd (by decide) _) (h.rd.set 0 _) (by decide) _⟩
/-- Another box of a reader's is turned. -/
theorem RgSt.putY (h : RgSt w W rb id v l y) {yb : Nat} {a b : Value} (hY : Arr W yb 91 [a, b]) (h1 : w.heap.size + 1 < yb) (h2 : rb ≠ yb) (x z : Value) : RgSt w ((W.setCell ⟨yb, 0, none⟩ x).setCell ⟨yb, 1, none⟩ z) rb id v l y :=
  ⟨(h.ext.st (p := ⟨yb, 0, none⟩) (by show w.heap.size ≤ yb; omega) _).st (p := ⟨yb, 1, none⟩) (by show w.heap.size ≤ yb; omega) _, (h.res.other _ (by omega)).other _ (by omega), (h.tok.other _ (by omega)).other _ (by omega), (h.rd.other _ h2).other _ h2,
   own_set_other (own_set_other h.own hY (by decide) _) (hY.set 0 _) (by decide) _⟩
/-- A box of a link's, made later, is turned. -/
theorem RgSt.putL (h : RgSt w W rb id v l y) {lb : Nat} (h1 : w.heap.size + 1 < lb) (h2 : rb ≠ lb) (h3 : v.ownBlock ≠ some lb) (j : Nat) (x : Value) : RgSt w (W.setCell ⟨lb, j, none⟩ x) rb id v l y :=
  ⟨h.ext.st (p := ⟨lb, j, none⟩) (by show w.heap.size ≤ lb; omega) _, h.res.other _ (by omega), h.tok.other _ (by omega), h.rd.other _ h2, h.own.kept ((Only.rfl' lb W).st j x) (.inr h3)⟩
end

theorem RgSt.grow {w W W' : World} {rb : Nat} {id : List UInt8} {v : Value} {l : List LinkL} {y : RS} (h : RgSt w W rb id v l y) (hg : W.grownBy W' v.ownBlock) :
    Ext w W' ∧ Arr W' w.heap.size 24 [.string ⟨#[]⟩, .slice none 0 0, .string ⟨#[]⟩] ∧ Arr W' (w.heap.size + 1) 24 [.string (ofL id), v, .string ⟨#[]⟩] ∧ Arr W' rb 91 [.string (ofL y.1), .int .i64 y.2] :=
  ⟨h.ext.own hg h.own (by omega), arr_kept_type h.res h.own (by decide) hg, arr_kept_type h.tok h.own (by decide) hg, arr_kept_type h.rd h.own (by decide) hg⟩
theorem own_lt {w : World} {base : Nat} {e : TypeId} {size n : Nat} {v : Value} {xs : List Value} (h : w.ownsRow base e size v n xs) {k : Nat} (hk : w.heap.size ≤ k) : v.ownBlock ≠ some k := fun e9 => by have := (h.lt k e9).2; omega

/-- Two texts of a link. -/
def twoGet (z : RS) : LinkL × RS := (((rText z 4144).1, (rText (rText z 4144).2 4144).1), if (rText (rText z 4144).2 4144).1 = [] then rFail (rText (rText z 4144).2 4144).2 2 else (rText (rText z 4144).2 4144).2)
theorem rlinkGet_one (y : RS) : rlinkGet 1 y = twoGet y := by unfold rlinkGet; rw [if_neg (by decide), if_pos rfl]; rfl
theorem rlinkGet_bad {b : UInt8} (y : RS) (h0 : b ≠ 0) (h1 : b ≠ 1) : rlinkGet b y = twoGet (rFail y 2) := by
  unfold rlinkGet twoGet
  rw [if_neg h0, if_neg h1]
  have e : rText (rFail y 2) 4144 = ([], rFail y 2) := rText_bad 4144 (rFail_ne y)
  rw [e]
  dsimp only
  rw [e]
  dsimp only
  rw [if_pos rfl, rFail2]
set_option maxRecDepth 100000 in
set_option maxHeartbeats 4000000 in
theorem rtkget_any (s : List UInt8) (w : World) (hs : s.length ≤ 1000000) : Calls Tryd.prog 18 #[.string (ofL s)] w (TokGot w (tokGetR s)) := by
  obtain ⟨W, hW, E0, A0, B0, hsW⟩ : ∃ W, (w.alloc (.cells #[.string ⟨#[]⟩, .slice none 0 0, .string ⟨#[]⟩] 24)).alloc (.cells #[.string ⟨#[]⟩, .slice none 0 0, .string ⟨#[]⟩] 24) = W ∧ Ext w W ∧ Arr W w.heap.size 24 [.string ⟨#[]⟩, .slice none 0 0, .string ⟨#[]⟩] ∧ Arr W (w.heap.size + 1) 24 [.string ⟨#[]⟩, .slice none 0 0, .string ⟨#[]⟩] ∧ W.heap.size = w.heap.size + 2 := by
    refine ⟨_, rfl, ((Ext.rfl' w).al _).al _, (Arr.new w _ [.string ⟨#[]⟩, .slice none 0 0, .string ⟨#[]⟩]).alloc _, ?_, by simp⟩
    have q := Arr.new (w.alloc (.cells #[.string ⟨#[]⟩, .slice none 0 0, .string ⟨#[]⟩] 24)) 24 [.string ⟨#[]⟩, .slice none 0 0, .string ⟨#[]⟩]
    rw [World.size_alloc] at q
    exact q
  have HW := Kp.mk hW
  obtain ⟨R, hR⟩ : ∃ R, tokGetR s = R := ⟨_, rfl⟩
  rw [hR]
  have HR := Kp.mk hR
  clear hR hW
  obtain ⟨X0, hX0⟩ : ∃ X, rText (s, 0) 4144 = X := ⟨_, rfl⟩
  obtain ⟨idl, y0⟩ := X0
  obtain ⟨N0, hN0⟩ : ∃ N, rNum y0 64 = N := ⟨_, rfl⟩
  obtain ⟨nn, y1⟩ := N0
  have hl0 := rText_len (s, 0) 4144
  have hl1 := rNum_len y0 64
  have hn64 := rNum_le y0 64
  rw [hX0] at hl0
  rw [hN0] at hl1 hn64
  dsimp only at hl0 hl1 hn64
  have hHd := Kp.mk (show tokHeadGet s = (idl, (linksGet nn y1).1, (linksGet nn y1).2) by unfold tokHeadGet; rw [hX0]; dsimp only; rw [hN0])
  have c1 := r8text (s, 0) 4144 W hs (by omega)
  have c2 := fun W' => r8num y0 64 W' (by omega)
  rw [hX0] at c1
  rw [hN0] at c2
  dsimp only at c1 c2
  unfold rv at c1 c2
  have c1 := Kp.mk c1; have c2 := Kp.mk c2
  have hLL := Kp.mk (fun k => linksGet_len k y1)
  clear hX0 hN0
  go_enter Tryd.func18, Tryd.ntmps18
  go_upto_region 2 with fail
  rw [HW.out]
  clear HW
  go_wp2_with fail
  refine c1.out.mono ?_
  rintro e w1 ⟨rfl, E1⟩
  have A1 := A0.ext E1 A0.lt
  have B1 := B0.ext E1 B0.lt
  have F1 := E0.tr E1
  have hs1 := E1.size
  clear A0 B0 E0 E1 c1
  obtain ⟨V, hV, EV, DV⟩ : ∃ V, w1.alloc (.cells #[.string (ofL y0.1), .int .i64 y0.2] 91) = V ∧ Ext w1 V ∧ Arr V w1.heap.size 91 [.string (ofL y0.1), .int .i64 y0.2] := ⟨_, rfl, (Ext.rfl' w1).al _, Arr.new w1 _ [.string (ofL y0.1), .int .i64 y0.2]⟩
  have A2 := A1.ext EV A1.lt
  have B2 := B1.ext EV B1.lt
  have F2 := F1.tr EV
  have HV := Kp.mk hV
  obtain ⟨rb, hrb⟩ : ∃ rb, w1.heap.size = rb := ⟨_, rfl⟩
  rw [hrb] at DV hs1
  have HRB := Kp.mk hrb
  clear hV hrb EV A1 B1 F1
  go_upto_region 3 with fail
  rw [HV.out, HRB.out]
  clear HV HRB
  have q0 := B2.cell 0; have z0 := B2.frozen 0
  simp only [List.getElem?_cons_zero] at q0
  have A3 := A2.other (g' := w.heap.size + 1) (j := 0) (.string (ofL idl)) (by omega)
  have B3 := B2.set 0 (.string (ofL idl))
  have D3 := DV.other (g' := w.heap.size + 1) (j := 0) (.string (ofL idl)) (by omega)
  have F3 := F2.st (p := ⟨w.heap.size + 1, 0, none⟩) (by show w.heap.size ≤ w.heap.size + 1; omega) (.string (ofL idl))
  obtain ⟨W3, hW3⟩ : ∃ W3, V.setCell ⟨w.heap.size + 1, 0, none⟩ (.string (ofL idl)) = W3 := ⟨_, rfl⟩
  rw [hW3] at A3 B3 D3 F3
  have HW3 := Kp.mk hW3
  have S3 : RgSt w W3 rb idl (.slice none 0 0) [] y0 := ⟨F3, A3, B3, D3, World.ownsRow_nil _ _ _ _⟩
  clear hW3 A2 B2 DV F2 A3 B3 D3 F3
  go_upto_region 4 with fail
  rw [HW3.out]
  clear HW3 q0 z0
  have r0 := S3.rd.cell 0; have r1 := S3.rd.cell 1
  simp only [List.getElem?_cons_zero, List.getElem?_cons_succ] at r0 r1
  go_wp2_with fail
  refine (c2.out _).mono ?_
  rintro e w4 ⟨rfl, E4⟩
  have S4 := S3.up E4
  clear S3 E4 r0 r1 c2
  obtain ⟨V5, hV5, EV5, D5⟩ : ∃ V, w4.alloc (.cells #[.string (ofL y1.1), .int .i64 y1.2] 91) = V ∧ Ext w4 V ∧ Arr V w4.heap.size 91 [.string (ofL y1.1), .int .i64 y1.2] := ⟨_, rfl, (Ext.rfl' w4).al _, Arr.new w4 _ [.string (ofL y1.1), .int .i64 y1.2]⟩
  have S5 := S4.up EV5
  have HV5 := Kp.mk hV5
  have hrd := S4.rd.lt
  clear hV5 EV5 S4
  go_upto_region 5 with fail
  rw [HV5.out]
  clear HV5
  have r0 := D5.cell 0; have r1 := D5.cell 1
  have p0 := S5.rd.cell 0; have p1 := S5.rd.cell 1; have z0 := S5.rd.frozen 0; have z1 := S5.rd.frozen 1
  simp only [List.getElem?_cons_zero, List.getElem?_cons_succ] at r0 r1 p0 p1
  have S6 := S5.put (by omega) y1
  obtain ⟨W6, hW6⟩ : ∃ W6, (V5.setCell ⟨rb, 0, none⟩ (.string (ofL y1.1))).setCell ⟨rb, 1, none⟩ (.int .i64 y1.2) = W6 := ⟨_, rfl⟩
  rw [hW6] at S6
  have HW6 := Kp.mk hW6
  clear hW6 S5 D5
  go_upto_region 6 with fail
  rw [HW6.out]
  clear HW6 r0 r1 p0 p1 z0 z1
  have hwr : IntKind.i64.wrap (nn : Int) = (nn : Int) := IntWalk.i64_in _ (by omega)
  go_wp2_with fail
  go_loopw [9] (fun i wr => ∃ (k : Nat) (A : Option Addr) (c : Nat), k ≤ nn ∧ i = .int .i64 k ∧ RgSt w wr rb idl (.slice A k c) (linksGet k y1).1 (linksGet k y1).2) (fun i _ => nn - (intOf i).toNat)
  case atStart => exact ⟨0, none, 0, by omega, rfl, S6⟩
  case round =>
    clear S6
    obtain ⟨k, A, c, hk, rfl, hS⟩ := hrel
    have hlk := hLL.out k
    by_cases hlt : k < nn
    · have hlen := length_linksGet k y1
      obtain ⟨⟨l, x⟩, hly⟩ : ∃ ly, linksGet k y1 = ly := ⟨_, rfl⟩
      have hnx := linksGet_step k y1
      rw [hly] at hS hlen hlk hnx
      dsimp only at hS hlen hlk hnx
      rw [linkGet_r] at hnx
      have cB := r8byte x wr (by omega)
      have hbl := rByte_len x
      obtain ⟨⟨b, y⟩, hb⟩ : ∃ b, rByte x = b := ⟨_, rfl⟩
      rw [hb] at cB hnx hbl
      dsimp only at cB hnx hbl
      unfold rv at cB
      have cB := Kp.mk cB
      have hnx := Kp.mk hnx
      have hylen : y.1.length ≤ 1000000 := by omega
      have r0 := hS.rd.cell 0; have r1 := hS.rd.cell 1
      simp only [List.getElem?_cons_zero, List.getElem?_cons_succ] at r0 r1
      clear hly hlk hb hbl
      subst hlen
      go_wp2_with fail
      refine cB.out.mono ?_
      rintro e w7 ⟨rfl, E7⟩
      have S7 := hS.up E7
      clear hS E7 r0 r1 cB
      obtain ⟨V8, hV8, EV8, D8⟩ : ∃ V, w7.alloc (.cells #[.string (ofL y.1), .int .i64 y.2] 91) = V ∧ Ext w7 V ∧ Arr V w7.heap.size 91 [.string (ofL y.1), .int .i64 y.2] := ⟨_, rfl, (Ext.rfl' w7).al _, Arr.new w7 _ [.string (ofL y.1), .int .i64 y.2]⟩
      have hy1 := S7.rd.lt
      have hy2 := S7.tok.lt
      have S8 := S7.up EV8
      have HV8 := Kp.mk hV8
      obtain ⟨yb, hyb⟩ : ∃ yb, w7.heap.size = yb := ⟨_, rfl⟩
      rw [hyb] at D8 hy1 hy2
      have HYB := Kp.mk hyb
      clear hV8 hyb EV8 S7
      go_upto_region 10 with fail
      rw [HV8.out, HYB.out]
      clear HV8 HYB
      by_cases hb0 : b = 0
      · subst hb0
        have d1 : decide ((1 : Int) < ((0 : UInt8).toNat : Int)) = false := rfl
        have d2 : (((0 : UInt8).toNat : Int) == 0) = true := rfl
        have hn2 := hnx.out
        unfold rlinkGet at hn2
        rw [if_pos rfl] at hn2
        obtain ⟨V9, hV9, EV9, D9⟩ : ∃ V, V8.alloc (.cells #[.string ⟨#[]⟩, .string ⟨#[]⟩] 74) = V ∧ Ext V8 V ∧ Arr V V8.heap.size 74 [.string ⟨#[]⟩, .string ⟨#[]⟩] := ⟨_, rfl, (Ext.rfl' V8).al _, Arr.new V8 _ [.string ⟨#[]⟩, .string ⟨#[]⟩]⟩
        have cT := r8text y 2048 V9 hylen (by omega)
        obtain ⟨⟨xa, y'⟩, hT⟩ : ∃ T, rText y 2048 = T := ⟨_, rfl⟩
        rw [hT] at cT hn2
        dsimp only at cT hn2
        unfold rv at cT
        have cT := Kp.mk cT
        have hfin := Kp.mk hn2
        have hb8 := D8.lt
        have hr8 := S8.rd.lt
        have hv9 := own_lt S8.own (Nat.le_refl V8.heap.size)
        have S9 := S8.up EV9
        have Y9 := D8.ext EV9 D8.lt
        have HV9 := Kp.mk hV9
        obtain ⟨lb, hlb⟩ : ∃ lb, V8.heap.size = lb := ⟨_, rfl⟩
        rw [hlb] at D9 hb8 hr8 hv9
        have HLB := Kp.mk hlb
        clear hn2 hnx hT hV9 hlb EV9 S8 D8
        go_upto_region 13 with fail
        rw [HV9.out, HLB.out]
        clear HV9 HLB
        have r0 := Y9.cell 0; have r1 := Y9.cell 1
        simp only [List.getElem?_cons_zero, List.getElem?_cons_succ] at r0 r1
        go_wp2_with fail
        refine cT.out.mono ?_
        rintro e w10 ⟨rfl, E10⟩
        have S10 := S9.up E10
        have L10 := D9.ext E10 D9.lt
        clear S9 D9 Y9 E10 r0 r1 cT
        have l0 := L10.cell 0; have zl := L10.frozen 0
        have p0 := S10.rd.cell 0; have p1 := S10.rd.cell 1; have z0 := S10.rd.frozen 0; have z1 := S10.rd.frozen 1
        simp only [List.getElem?_cons_zero, List.getElem?_cons_succ] at l0 p0 p1
        have SZ := (S10.putL (lb := lb) (by omega) (by omega) hv9 0 (.string (ofL xa))).put (by omega) y'
        have DL := ((L10.set 0 (.string (ofL xa))).other (g' := rb) (j := 0) (.string (ofL y'.1)) (by omega)).other (g' := rb) (j := 1) (.int .i64 y'.2) (by omega)
        obtain ⟨WZ, hWZ⟩ : ∃ WZ, ((w10.setCell ⟨lb, 0, none⟩ (.string (ofL xa))).setCell ⟨rb, 0, none⟩ (.string (ofL y'.1))).setCell ⟨rb, 1, none⟩ (.int .i64 y'.2) = WZ := ⟨_, rfl⟩
        rw [hWZ] at SZ DL
        have HWZ := Kp.mk hWZ
        clear S10 L10 hWZ
        go_upto_region 19 with fail
        rw [HWZ.out]
        clear HWZ l0 zl p0 p1 z0 z1
        obtain ⟨xb, hxb⟩ : ∃ xb : List UInt8, [] = xb := ⟨_, rfl⟩
        rw [hxb] at hfin
        have DL : Arr WZ lb 74 [.string (ofL xa), .string (ofL xb)] := by rw [← hxb]; exact DL
        clear hxb
        have t1 := SZ.tok.cell 1
        have l0 := DL.cell 0; have l1 := DL.cell 1
        simp only [List.getElem?_cons_zero, List.getElem?_cons_succ, List.set] at t1 l0 l1
        have own5 := SZ.own
        have hs5 := SZ.tok.lt
        go_upto_region 8 with (at_builtin; refine wpl_app Tryd.elemLnk rfl _ _ rfl own5 1 rfl rfl rfl (oneCell_lnk xa xb) (by omega) (by omega) (by omega) ?_; intro v6 w6 own6 hg6; obtain ⟨A6, c6, hv6⟩ := own_slice own6; subst hv6; have G6 := SZ.grow hg6; have t1 := G6.2.2.1.cell 1; have z1 := G6.2.2.1.frozen 1; clear own5 hg6 SZ DL l0 l1 hs5; simp only [List.getElem?_cons_zero, List.getElem?_cons_succ] at t1)
        have own7 := own_set_other own6 G6.2.2.1 (by decide) (j := 1) (.slice A6 (l.length + 1) c6)
        have T7 := G6.2.2.1.set 1 (.slice A6 (l.length + 1) c6)
        have A7 := G6.2.1.other (g' := w.heap.size + 1) (j := 1) (.slice A6 (l.length + 1) c6) (by omega)
        have R7 := G6.2.2.2.other (g' := w.heap.size + 1) (j := 1) (.slice A6 (l.length + 1) c6) (by omega)
        have F7 := G6.1.st (p := ⟨w.heap.size + 1, 1, none⟩) (by show w.heap.size ≤ w.heap.size + 1; omega) (.slice A6 (l.length + 1) c6)
        have S7 := Kp.mk (show RgSt w (w6.setCell ⟨w.heap.size + 1, 1, none⟩ (.slice A6 (l.length + 1) c6)) rb idl (.slice A6 (l.length + 1) c6) (linksGet (l.length + 1) y1).1 (linksGet (l.length + 1) y1).2 from by
          rw [hfin.out]
          exact ⟨F7, A7, T7, R7, own_eq own7 (by simp [linkCells]) (by simp)⟩)
        clear own6 G6 own7 T7 A7 R7 F7 hfin t1 z1
        go_wp2
        go_roundw
        case rel => exact ⟨l.length + 1, A6, c6, by omega, by go_num, S7.out⟩
        case measure => simp [intOf]; omega
      · have d2 : ((b.toNat : Int) == 0) = false := u8_ne 0 hb0 (by decide)
        by_cases hb1 : b = 1
        · subst hb1
          have d1 : decide ((1 : Int) < ((1 : UInt8).toNat : Int)) = false := rfl
          have hn2 := hnx.out
          rw [rlinkGet_one] at hn2
          obtain ⟨z, rfl⟩ : ∃ z, z = y := ⟨_, rfl⟩
          obtain ⟨VY, rfl⟩ : ∃ V, V = V8 := ⟨_, rfl⟩
          have hnz := Kp.mk hn2
          have SY := S8; have DY := D8; have hzlen := hylen
          clear hn2 hnx hb0 S8 D8
          obtain ⟨V9, hV9, EV9, D9⟩ : ∃ V, VY.alloc (.cells #[.string ⟨#[]⟩, .string ⟨#[]⟩] 74) = V ∧ Ext VY V ∧ Arr V VY.heap.size 74 [.string ⟨#[]⟩, .string ⟨#[]⟩] := ⟨_, rfl, (Ext.rfl' VY).al _, Arr.new VY _ [.string ⟨#[]⟩, .string ⟨#[]⟩]⟩
          have hn2 := hnz.out
          unfold twoGet at hn2
          have cT := r8text z 4144 V9 hzlen (by omega)
          have hl2 := rText_len z 4144
          obtain ⟨⟨xa, z2⟩, hT⟩ : ∃ T, rText z 4144 = T := ⟨_, rfl⟩
          rw [hT] at cT hn2 hl2
          dsimp only at cT hn2 hl2
          have cU := fun W' => r8text z2 4144 W' (by omega) (by omega)
          obtain ⟨⟨xb, z3⟩, hU⟩ : ∃ T, rText z2 4144 = T := ⟨_, rfl⟩
          rw [hU] at cU hn2
          dsimp only at cU hn2
          unfold rv at cT cU
          have cT := Kp.mk cT; have cU := Kp.mk cU
          have hfin0 := Kp.mk hn2
          have hb8 := DY.lt
          have hr8 := SY.rd.lt
          have hv9 := own_lt SY.own (Nat.le_refl VY.heap.size)
          have S9 := SY.up EV9
          have Y9 := DY.ext EV9 DY.lt
          have HV9 := Kp.mk hV9
          obtain ⟨lb, hlb⟩ : ∃ lb, VY.heap.size = lb := ⟨_, rfl⟩
          rw [hlb] at D9 hb8 hr8 hv9
          have HLB := Kp.mk hlb
          clear hn2 hnz hT hU hV9 hlb EV9 SY DY
          go_upto_region 13 with fail
          rw [HV9.out, HLB.out]
          clear HV9 HLB
          have r0 := Y9.cell 0; have r1 := Y9.cell 1
          simp only [List.getElem?_cons_zero, List.getElem?_cons_succ] at r0 r1
          go_wp2_with fail
          refine cT.out.mono ?_
          rintro e w10 ⟨rfl, E10⟩
          have S10 := S9.up E10
          have L10 := D9.ext E10 D9.lt
          have Y10 := Y9.ext E10 Y9.lt
          clear S9 D9 Y9 E10 r0 r1 cT
          have l0 := L10.cell 0; have zl := L10.frozen 0
          have p0 := Y10.cell 0; have p1 := Y10.cell 1; have z0 := Y10.frozen 0; have z1 := Y10.frozen 1
          simp only [List.getElem?_cons_zero, List.getElem?_cons_succ] at l0 p0 p1
          have L11 := L10.set 0 (.string (ofL xa))
          have S11 := (S10.putL (lb := lb) (by omega) (by omega) hv9 0 (.string (ofL xa))).putY (Y10.other (g' := lb) (j := 0) (.string (ofL xa)) (by omega)) (by omega) (by omega) (.string (ofL z2.1)) (.int .i64 z2.2)
          have L12 := (L11.other (g' := yb) (j := 0) (.string (ofL z2.1)) (by omega)).other (g' := yb) (j := 1) (.int .i64 z2.2) (by omega)
          have Y12 := ((Y10.other (g' := lb) (j := 0) (.string (ofL xa)) (by omega)).set 0 (.string (ofL z2.1))).set 1 (.int .i64 z2.2)
          obtain ⟨W12, hW12⟩ : ∃ W, ((w10.setCell ⟨lb, 0, none⟩ (.string (ofL xa))).setCell ⟨yb, 0, none⟩ (.string (ofL z2.1))).setCell ⟨yb, 1, none⟩ (.int .i64 z2.2) = W := ⟨_, rfl⟩
          rw [hW12] at S11 L12 Y12
          have HW12 := Kp.mk hW12
          clear S10 L10 Y10 L11 hW12
          go_upto_region 16 with fail
          rw [HW12.out]
          clear HW12 l0 zl p0 p1 z0 z1
          have r0 := Y12.cell 0; have r1 := Y12.cell 1
          simp only [List.getElem?_cons_zero, List.getElem?_cons_succ, List.set] at r0 r1
          go_wp2_with fail
          refine (cU.out _).mono ?_
          rintro e w13 ⟨rfl, E13⟩
          have S13 := S11.up E13
          have L13 := L12.ext E13 L12.lt
          clear S11 L12 Y12 E13 r0 r1 cU
          have l1 := L13.cell 1; have zl := L13.frozen 1
          have p0 := S13.rd.cell 0; have p1 := S13.rd.cell 1; have z0 := S13.rd.frozen 0; have z1 := S13.rd.frozen 1
          simp only [List.getElem?_cons_zero, List.getElem?_cons_succ, List.set] at l1 p0 p1
          have S14 := (S13.putL (lb := lb) (by omega) (by omega) hv9 1 (.string (ofL xb))).put (by omega) z3
          have L14 := ((L13.set 1 (.string (ofL xb))).other (g' := rb) (j := 0) (.string (ofL z3.1)) (by omega)).other (g' := rb) (j := 1) (.int .i64 z3.2) (by omega)
          obtain ⟨W14, hW14⟩ : ∃ W, ((w13.setCell ⟨lb, 1, none⟩ (.string (ofL xb))).setCell ⟨rb, 0, none⟩ (.string (ofL z3.1))).setCell ⟨rb, 1, none⟩ (.int .i64 z3.2) = W := ⟨_, rfl⟩
          rw [hW14] at S14 L14
          have HW14 := Kp.mk hW14
          clear S13 L13 hW14
          go_upto_region 17 with fail
          rw [HW14.out]
          clear HW14 l1 zl p0 p1 z0 z1
          have l1 := L14.cell 1
          simp only [List.getElem?_cons_zero, List.getElem?_cons_succ, List.set] at l1
          by_cases hxb : xb = []
          · have d5 : xb.isEmpty = true := by rw [hxb]; rfl
            have hf2 := hfin0.out
            rw [if_pos hxb] at hf2
            have r0 := S14.rd.cell 0; have r1 := S14.rd.cell 1
            simp only [List.getElem?_cons_zero, List.getElem?_cons_succ] at r0 r1
            have cF := r8fail z3 2 W14
            obtain ⟨y', hy'⟩ : ∃ y', rFail z3 2 = y' := ⟨_, rfl⟩
            rw [hy'] at cF hf2
            unfold rv at cF
            have cF := Kp.mk cF
            have hfin := Kp.mk hf2
            clear hf2 hy' hxb hfin0
            go_wp2_with fail
            refine cF.out.mono ?_
            rintro e w15 ⟨rfl, E15⟩
            have S15 := S14.up E15
            have L15 := L14.ext E15 L14.lt
            clear S14 L14 E15 r0 r1 cF l1
            have p0 := S15.rd.cell 0; have p1 := S15.rd.cell 1; have z0 := S15.rd.frozen 0; have z1 := S15.rd.frozen 1
            simp only [List.getElem?_cons_zero, List.getElem?_cons_succ] at p0 p1
            have SZ := S15.put (by omega) y'
            have DL := (L15.other (g' := rb) (j := 0) (.string (ofL y'.1)) (by omega)).other (g' := rb) (j := 1) (.int .i64 y'.2) (by omega)
            obtain ⟨WZ, hWZ⟩ : ∃ WZ, (w15.setCell ⟨rb, 0, none⟩ (.string (ofL y'.1))).setCell ⟨rb, 1, none⟩ (.int .i64 y'.2) = WZ := ⟨_, rfl⟩
            rw [hWZ] at SZ DL
            have HWZ := Kp.mk hWZ
            clear S15 L15 hWZ
            go_upto_region 19 with fail
            rw [HWZ.out]
            clear HWZ p0 p1 z0 z1
            have t1 := SZ.tok.cell 1
            have l0 := DL.cell 0; have l1 := DL.cell 1
            simp only [List.getElem?_cons_zero, List.getElem?_cons_succ, List.set] at t1 l0 l1
            have own5 := SZ.own
            have hs5 := SZ.tok.lt
            go_upto_region 8 with (at_builtin; refine wpl_app Tryd.elemLnk rfl _ _ rfl own5 1 rfl rfl rfl (oneCell_lnk xa xb) (by omega) (by omega) (by omega) ?_; intro v6 w6 own6 hg6; obtain ⟨A6, c6, hv6⟩ := own_slice own6; subst hv6; have G6 := SZ.grow hg6; have t1 := G6.2.2.1.cell 1; have z1 := G6.2.2.1.frozen 1; clear own5 hg6 SZ DL l0 l1 hs5; simp only [List.getElem?_cons_zero, List.getElem?_cons_succ] at t1)
            have own7 := own_set_other own6 G6.2.2.1 (by decide) (j := 1) (.slice A6 (l.length + 1) c6)
            have T7 := G6.2.2.1.set 1 (.slice A6 (l.length + 1) c6)
            have A7 := G6.2.1.other (g' := w.heap.size + 1) (j := 1) (.slice A6 (l.length + 1) c6) (by omega)
            have R7 := G6.2.2.2.other (g' := w.heap.size + 1) (j := 1) (.slice A6 (l.length + 1) c6) (by omega)
            have F7 := G6.1.st (p := ⟨w.heap.size + 1, 1, none⟩) (by show w.heap.size ≤ w.heap.size + 1; omega) (.slice A6 (l.length + 1) c6)
            have S7 := Kp.mk (show RgSt w (w6.setCell ⟨w.heap.size + 1, 1, none⟩ (.slice A6 (l.length + 1) c6)) rb idl (.slice A6 (l.length + 1) c6) (linksGet (l.length + 1) y1).1 (linksGet (l.length + 1) y1).2 from by
              rw [hfin.out]
              exact ⟨F7, A7, T7, R7, own_eq own7 (by simp [linkCells]) (by simp)⟩)
            clear own6 G6 own7 T7 A7 R7 F7 hfin t1 z1
            go_wp2
            go_roundw
            case rel => exact ⟨l.length + 1, A6, c6, by omega, by go_num, S7.out⟩
            case measure => simp [intOf]; omega
          · have d5 : xb.isEmpty = false := isEmpty_ne hxb
            have hf2 := hfin0.out
            rw [if_neg hxb] at hf2
            obtain ⟨y', rfl⟩ : ∃ y', y' = z3 := ⟨_, rfl⟩
            have hfin := Kp.mk hf2
            have SZ := S14
            have DL := L14
            clear hf2 hxb hfin0 S14 L14
            go_upto_region 19 with fail
            clear l1
            have t1 := SZ.tok.cell 1
            have l0 := DL.cell 0; have l1 := DL.cell 1
            simp only [List.getElem?_cons_zero, List.getElem?_cons_succ, List.set] at t1 l0 l1
            have own5 := SZ.own
            have hs5 := SZ.tok.lt
            go_upto_region 8 with (at_builtin; refine wpl_app Tryd.elemLnk rfl _ _ rfl own5 1 rfl rfl rfl (oneCell_lnk xa xb) (by omega) (by omega) (by omega) ?_; intro v6 w6 own6 hg6; obtain ⟨A6, c6, hv6⟩ := own_slice own6; subst hv6; have G6 := SZ.grow hg6; have t1 := G6.2.2.1.cell 1; have z1 := G6.2.2.1.frozen 1; clear own5 hg6 SZ DL l0 l1 hs5; simp only [List.getElem?_cons_zero, List.getElem?_cons_succ] at t1)
            have own7 := own_set_other own6 G6.2.2.1 (by decide) (j := 1) (.slice A6 (l.length + 1) c6)
            have T7 := G6.2.2.1.set 1 (.slice A6 (l.length + 1) c6)
            have A7 := G6.2.1.other (g' := w.heap.size + 1) (j := 1) (.slice A6 (l.length + 1) c6) (by omega)
            have R7 := G6.2.2.2.other (g' := w.heap.size + 1) (j := 1) (.slice A6 (l.length + 1) c6) (by omega)
            have F7 := G6.1.st (p := ⟨w.heap.size + 1, 1, none⟩) (by show w.heap.size ≤ w.heap.size + 1; omega) (.slice A6 (l.length + 1) c6)
            have S7 := Kp.mk (show RgSt w (w6.setCell ⟨w.heap.size + 1, 1, none⟩ (.slice A6 (l.length + 1) c6)) rb idl (.slice A6 (l.length + 1) c6) (linksGet (l.length + 1) y1).1 (linksGet (l.length + 1) y1).2 from by
              rw [hfin.out]
              exact ⟨F7, A7, T7, R7, own_eq own7 (by simp [linkCells]) (by simp)⟩)
            clear own6 G6 own7 T7 A7 R7 F7 hfin t1 z1
            go_wp2
            go_roundw
            case rel => exact ⟨l.length + 1, A6, c6, by omega, by go_num, S7.out⟩
            case measure => simp [intOf]; omega
        · have hbn : 1 < b.toNat := by
            rcases Nat.lt_or_ge 1 b.toNat with h | h
            · exact h
            · exfalso
              rcases Nat.lt_or_ge b.toNat 1 with h2 | h2
              · exact hb0 (UInt8.toNat_inj.1 (by show b.toNat = 0; omega))
              · exact hb1 (UInt8.toNat_inj.1 (by show b.toNat = 1; omega))
          have d1 : decide ((1 : Int) < (b.toNat : Int)) = true := by simp; omega
          have hn2 := hnx.out
          rw [rlinkGet_bad y hb0 hb1] at hn2
          have cF := r8fail y 2 V8
          have hzlen : (rFail y 2).1.length ≤ 1000000 := Nat.le_trans (rFail_le y 2) hylen
          obtain ⟨z, hz⟩ : ∃ z, rFail y 2 = z := ⟨_, rfl⟩
          rw [hz] at cF hn2 hzlen
          unfold rv at cF
          have cF := Kp.mk cF
          have hnz := Kp.mk hn2
          have r0 := D8.cell 0; have r1 := D8.cell 1
          simp only [List.getElem?_cons_zero, List.getElem?_cons_succ] at r0 r1
          clear hn2 hnx hb0 hb1 hbn hz
          go_wp2_with fail
          refine cF.out.mono ?_
          rintro e w9 ⟨rfl, E9⟩
          have S9 := S8.up E9
          have D9 := D8.ext E9 D8.lt
          clear S8 D8 E9 r0 r1 cF
          have p0 := D9.cell 0; have p1 := D9.cell 1; have z0 := D9.frozen 0; have z1 := D9.frozen 1
          simp only [List.getElem?_cons_zero, List.getElem?_cons_succ] at p0 p1
          have SY := S9.putY D9 (by omega) (by omega) (.string (ofL z.1)) (.int .i64 z.2)
          have DY := (D9.set 0 (.string (ofL z.1))).set 1 (.int .i64 z.2)
          obtain ⟨VY, hVY⟩ : ∃ V, (w9.setCell ⟨yb, 0, none⟩ (.string (ofL z.1))).setCell ⟨yb, 1, none⟩ (.int .i64 z.2) = V := ⟨_, rfl⟩
          rw [hVY] at SY DY
          have HVY := Kp.mk hVY
          clear S9 D9 hVY
          go_upto_region 12 with fail
          rw [HVY.out]
          clear HVY p0 p1 z0 z1
          simp only [List.set] at DY
          obtain ⟨V9, hV9, EV9, D9⟩ : ∃ V, VY.alloc (.cells #[.string ⟨#[]⟩, .string ⟨#[]⟩] 74) = V ∧ Ext VY V ∧ Arr V VY.heap.size 74 [.string ⟨#[]⟩, .string ⟨#[]⟩] := ⟨_, rfl, (Ext.rfl' VY).al _, Arr.new VY _ [.string ⟨#[]⟩, .string ⟨#[]⟩]⟩
          have hn2 := hnz.out
          unfold twoGet at hn2
          have cT := r8text z 4144 V9 hzlen (by omega)
          have hl2 := rText_len z 4144
          obtain ⟨⟨xa, z2⟩, hT⟩ : ∃ T, rText z 4144 = T := ⟨_, rfl⟩
          rw [hT] at cT hn2 hl2
          dsimp only at cT hn2 hl2
          have cU := fun W' => r8text z2 4144 W' (by omega) (by omega)
          obtain ⟨⟨xb, z3⟩, hU⟩ : ∃ T, rText z2 4144 = T := ⟨_, rfl⟩
          rw [hU] at cU hn2
          dsimp only at cU hn2
          unfold rv at cT cU
          have cT := Kp.mk cT; have cU := Kp.mk cU
          have hfin0 := Kp.mk hn2
          have hb8 := DY.lt
          have hr8 := SY.rd.lt
          have hv9 := own_lt SY.own (Nat.le_refl VY.heap.size)
          have S9 := SY.up EV9
          have Y9 := DY.ext EV9 DY.lt
          have HV9 := Kp.mk hV9
          obtain ⟨lb, hlb⟩ : ∃ lb, VY.heap.size = lb := ⟨_, rfl⟩
          rw [hlb] at D9 hb8 hr8 hv9
          have HLB := Kp.mk hlb
          clear hn2 hnz hT hU hV9 hlb EV9 SY DY
          go_upto_region 13 with fail
          rw [HV9.out, HLB.out]
          clear HV9 HLB
          have r0 := Y9.cell 0; have r1 := Y9.cell 1
          simp only [List.getElem?_cons_zero, List.getElem?_cons_succ] at r0 r1
          go_wp2_with fail
          refine cT.out.mono ?_
          rintro e w10 ⟨rfl, E10⟩
          have S10 := S9.up E10
          have L10 := D9.ext E10 D9.lt
          have Y10 := Y9.ext E10 Y9.lt
          clear S9 D9 Y9 E10 r0 r1 cT
          have l0 := L10.cell 0; have zl := L10.frozen 0
          have p0 := Y10.cell 0; have p1 := Y10.cell 1; have z0 := Y10.frozen 0; have z1 := Y10.frozen 1
          simp only [List.getElem?_cons_zero, List.getElem?_cons_succ] at l0 p0 p1
          have L11 := L10.set 0 (.string (ofL xa))
          have S11 := (S10.putL (lb := lb) (by omega) (by omega) hv9 0 (.string (ofL xa))).putY (Y10.other (g' := lb) (j := 0) (.string (ofL xa)) (by omega)) (by omega) (by omega) (.string (ofL z2.1)) (.int .i64 z2.2)
          have L12 := (L11.other (g' := yb) (j := 0) (.string (ofL z2.1)) (by omega)).other (g' := yb) (j := 1) (.int .i64 z2.2) (by omega)
          have Y12 := ((Y10.other (g' := lb) (j := 0) (.string (ofL xa)) (by omega)).set 0 (.string (ofL z2.1))).set 1 (.int .i64 z2.2)
          obtain ⟨W12, hW12⟩ : ∃ W, ((w10.setCell ⟨lb, 0, none⟩ (.string (ofL xa))).setCell ⟨yb, 0, none⟩ (.string (ofL z2.1))).setCell ⟨yb, 1, none⟩ (.int .i64 z2.2) = W := ⟨_, rfl⟩
          rw [hW12] at S11 L12 Y12
          have HW12 := Kp.mk hW12
          clear S10 L10 Y10 L11 hW12
          go_upto_region 16 with fail
          rw [HW12.out]
          clear HW12 l0 zl p0 p1 z0 z1
          have r0 := Y12.cell 0; have r1 := Y12.cell 1
          simp only [List.getElem?_cons_zero, List.getElem?_cons_succ, List.set] at r0 r1
          go_wp2_with fail
          refine (cU.out _).mono ?_
          rintro e w13 ⟨rfl, E13⟩
          have S13 := S11.up E13
          have L13 := L12.ext E13 L12.lt
          clear S11 L12 Y12 E13 r0 r1 cU
          have l1 := L13.cell 1; have zl := L13.frozen 1
          have p0 := S13.rd.cell 0; have p1 := S13.rd.cell 1; have z0 := S13.rd.frozen 0; have z1 := S13.rd.frozen 1
          simp only [List.getElem?_cons_zero, List.getElem?_cons_succ, List.set] at l1 p0 p1
          have S14 := (S13.putL (lb := lb) (by omega) (by omega) hv9 1 (.string (ofL xb))).put (by omega) z3
          have L14 := ((L13.set 1 (.string (ofL xb))).other (g' := rb) (j := 0) (.string (ofL z3.1)) (by omega)).other (g' := rb) (j := 1) (.int .i64 z3.2) (by omega)
          obtain ⟨W14, hW14⟩ : ∃ W, ((w13.setCell ⟨lb, 1, none⟩ (.string (ofL xb))).setCell ⟨rb, 0, none⟩ (.string (ofL z3.1))).setCell ⟨rb, 1, none⟩ (.int .i64 z3.2) = W := ⟨_, rfl⟩
          rw [hW14] at S14 L14
          have HW14 := Kp.mk hW14
          clear S13 L13 hW14
          go_upto_region 17 with fail
          rw [HW14.out]
          clear HW14 l1 zl p0 p1 z0 z1
          have l1 := L14.cell 1
          simp only [List.getElem?_cons_zero, List.getElem?_cons_succ, List.set] at l1
          by_cases hxb : xb = []
          · have d5 : xb.isEmpty = true := by rw [hxb]; rfl
            have hf2 := hfin0.out
            rw [if_pos hxb] at hf2
            have r0 := S14.rd.cell 0; have r1 := S14.rd.cell 1
            simp only [List.getElem?_cons_zero, List.getElem?_cons_succ] at r0 r1
            have cF := r8fail z3 2 W14
            obtain ⟨y', hy'⟩ : ∃ y', rFail z3 2 = y' := ⟨_, rfl⟩
            rw [hy'] at cF hf2
            unfold rv at cF
            have cF := Kp.mk cF
            have hfin := Kp.mk hf2
            clear hf2 hy' hxb hfin0
            go_wp2_with fail
            refine cF.out.mono ?_
            rintro e w15 ⟨rfl, E15⟩
            have S15 := S14.up E15
            have L15 := L14.ext E15 L14.lt
            clear S14 L14 E15 r0 r1 cF l1
            have p0 := S15.rd.cell 0; have p1 := S15.rd.cell 1; have z0 := S15.rd.frozen 0; have z1 := S15.rd.frozen 1
            simp only [List.getElem?_cons_zero, List.getElem?_cons_succ] at p0 p1
            have SZ := S15.put (by omega) y'
            have DL := (L15.other (g' := rb) (j := 0) (.string (ofL y'.1)) (by omega)).other (g' := rb) (j := 1) (.int .i64 y'.2) (by omega)
            obtain ⟨WZ, hWZ⟩ : ∃ WZ, (w15.setCell ⟨rb, 0, none⟩ (.string (ofL y'.1))).setCell ⟨rb, 1, none⟩ (.int .i64 y'.2) = WZ := ⟨_, rfl⟩
            rw [hWZ] at SZ DL
            have HWZ := Kp.mk hWZ
            clear S15 L15 hWZ
            go_upto_region 19 with fail
            rw [HWZ.out]
            clear HWZ p0 p1 z0 z1
            have t1 := SZ.tok.cell 1
            have l0 := DL.cell 0; have l1 := DL.cell 1
            simp only [List.getElem?_cons_zero, List.getElem?_cons_succ, List.set] at t1 l0 l1
            have own5 := SZ.own
            have hs5 := SZ.tok.lt
            go_upto_region 8 with (at_builtin; refine wpl_app Tryd.elemLnk rfl _ _ rfl own5 1 rfl rfl rfl (oneCell_lnk xa xb) (by omega) (by omega) (by omega) ?_; intro v6 w6 own6 hg6; obtain ⟨A6, c6, hv6⟩ := own_slice own6; subst hv6; have G6 := SZ.grow hg6; have t1 := G6.2.2.1.cell 1; have z1 := G6.2.2.1.frozen 1; clear own5 hg6 SZ DL l0 l1 hs5; simp only [List.getElem?_cons_zero, List.getElem?_cons_succ] at t1)
            have own7 := own_set_other own6 G6.2.2.1 (by decide) (j := 1) (.slice A6 (l.length + 1) c6)
            have T7 := G6.2.2.1.set 1 (.slice A6 (l.length + 1) c6)
            have A7 := G6.2.1.other (g' := w.heap.size + 1) (j := 1) (.slice A6 (l.length + 1) c6) (by omega)
            have R7 := G6.2.2.2.other (g' := w.heap.size + 1) (j := 1) (.slice A6 (l.length + 1) c6) (by omega)
            have F7 := G6.1.st (p := ⟨w.heap.size + 1, 1, none⟩) (by show w.heap.size ≤ w.heap.size + 1; omega) (.slice A6 (l.length + 1) c6)
            have S7 := Kp.mk (show RgSt w (w6.setCell ⟨w.heap.size + 1, 1, none⟩ (.slice A6 (l.length + 1) c6)) rb idl (.slice A6 (l.length + 1) c6) (linksGet (l.length + 1) y1).1 (linksGet (l.length + 1) y1).2 from by
              rw [hfin.out]
              exact ⟨F7, A7, T7, R7, own_eq own7 (by simp [linkCells]) (by simp)⟩)
            clear own6 G6 own7 T7 A7 R7 F7 hfin t1 z1
            go_wp2
            go_roundw
            case rel => exact ⟨l.length + 1, A6, c6, by omega, by go_num, S7.out⟩
            case measure => simp [intOf]; omega
          · have d5 : xb.isEmpty = false := isEmpty_ne hxb
            have hf2 := hfin0.out
            rw [if_neg hxb] at hf2
            obtain ⟨y', rfl⟩ : ∃ y', y' = z3 := ⟨_, rfl⟩
            have hfin := Kp.mk hf2
            have SZ := S14
            have DL := L14
            clear hf2 hxb hfin0 S14 L14
            go_upto_region 19 with fail
            clear l1
            have t1 := SZ.tok.cell 1
            have l0 := DL.cell 0; have l1 := DL.cell 1
            simp only [List.getElem?_cons_zero, List.getElem?_cons_succ, List.set] at t1 l0 l1
            have own5 := SZ.own
            have hs5 := SZ.tok.lt
            go_upto_region 8 with (at_builtin; refine wpl_app Tryd.elemLnk rfl _ _ rfl own5 1 rfl rfl rfl (oneCell_lnk xa xb) (by omega) (by omega) (by omega) ?_; intro v6 w6 own6 hg6; obtain ⟨A6, c6, hv6⟩ := own_slice own6; subst hv6; have G6 := SZ.grow hg6; have t1 := G6.2.2.1.cell 1; have z1 := G6.2.2.1.frozen 1; clear own5 hg6 SZ DL l0 l1 hs5; simp only [List.getElem?_cons_zero, List.getElem?_cons_succ] at t1)
            have own7 := own_set_other own6 G6.2.2.1 (by decide) (j := 1) (.slice A6 (l.length + 1) c6)
            have T7 := G6.2.2.1.set 1 (.slice A6 (l.length + 1) c6)
            have A7 := G6.2.1.other (g' := w.heap.size + 1) (j := 1) (.slice A6 (l.length + 1) c6) (by omega)
            have R7 := G6.2.2.2.other (g' := w.heap.size + 1) (j := 1) (.slice A6 (l.length + 1) c6) (by omega)
            have F7 := G6.1.st (p := ⟨w.heap.size + 1, 1, none⟩) (by show w.heap.size ≤ w.heap.size + 1; omega) (.slice A6 (l.length + 1) c6)
            have S7 := Kp.mk (show RgSt w (w6.setCell ⟨w.heap.size + 1, 1, none⟩ (.slice A6 (l.length + 1) c6)) rb idl (.slice A6 (l.length + 1) c6) (linksGet (l.length + 1) y1).1 (linksGet (l.length + 1) y1).2 from by
              rw [hfin.out]
              exact ⟨F7, A7, T7, R7, own_eq own7 (by simp [linkCells]) (by simp)⟩)
            clear own6 G6 own7 T7 A7 R7 F7 hfin t1 z1
            go_wp2
            go_roundw
            case rel => exact ⟨l.length + 1, A6, c6, by omega, by go_num, S7.out⟩
            case measure => simp [intOf]; omega
    · obtain rfl : k = nn := by omega
      have hlen := length_linksGet k y1
      obtain ⟨⟨l, y⟩, hly⟩ : ∃ ly, linksGet k y1 = ly := ⟨_, rfl⟩
      have hh := hHd.out
      rw [hly] at hS hlen hh
      dsimp only at hS hlen hh
      subst hlen
      have hG := Kp.mk (show R = if y.2 ≠ 0 then (tok0, y.2) else if y.1.length < 32 then (tok0, 1) else if 32 < y.1.length then (tok0, 2) else (⟨idl, l, y.1⟩, 0) by rw [← HR.out]; unfold tokGetR; rw [hh])
      clear hly hh hlk hHd hLL
      obtain ⟨ys, ye⟩ := y
      dsimp only at *
      have zs : (ofL ys).size = ys.length := size_ofL _
      have r0 := hS.rd.cell 0; have r1 := hS.rd.cell 1; have zr0 := hS.rd.frozen 0; have zr1 := hS.rd.frozen 1
      simp only [List.getElem?_cons_zero, List.getElem?_cons_succ] at r0 r1
      by_cases he : ye = 0
      · subst he
        by_cases h1 : ys.length < 32
        · have d1 : decide ((ys.length : Int) < 32) = true := by simp; omega
          have hRe : R = (tok0, 1) := by rw [hG.out, if_neg (by decide), if_pos h1]
          subst hRe
          have cF := r8fail (ys, 0) 1 wr
          rw [show rFail (ys, 0) 1 = ([], 1) from rfl] at cF
          unfold rv at cF
          have cF := Kp.mk cF
          clear hG h1
          go_wp2_with fail
          refine cF.out.mono ?_
          rintro e w5 ⟨rfl, E5⟩
          have S5 := hS.up E5
          clear hS E5 r0 r1 zr0 zr1 cF
          have p0 := S5.rd.cell 0; have p1 := S5.rd.cell 1; have z0 := S5.rd.frozen 0; have z1 := S5.rd.frozen 1
          simp only [List.getElem?_cons_zero, List.getElem?_cons_succ] at p0 p1
          have S6 := S5.put (by omega) ([], 1)
          obtain ⟨W6, hW6⟩ : ∃ W6, (w5.setCell ⟨rb, 0, none⟩ (.string (ofL []))).setCell ⟨rb, 1, none⟩ (.int .i64 1) = W6 := ⟨_, rfl⟩
          rw [hW6] at S6
          have HW6 := Kp.mk hW6
          clear S5 hW6
          go_upto_region 22 with fail
          rw [HW6.out]
          clear HW6 p0 p1 z0 z1
          have r0 := S6.rd.cell 0; have r1 := S6.rd.cell 1
          simp only [List.getElem?_cons_zero, List.getElem?_cons_succ] at r0 r1
          have t2 : ((1 : Int) == 0) = false := rfl
          have t3 : ((1 : Int) != 0) = true := rfl
          have A9 := S6.res; have E9 := S6.ext
          clear S6
          have p0 := A9.cell 0; have p1 := A9.cell 1; have p2 := A9.cell 2; have y0 := A9.frozen 0; have y1 := A9.frozen 1; have y2 := A9.frozen 2
          simp only [List.getElem?_cons_zero, List.getElem?_cons_succ] at p0 p1 p2
          have A10 := arr_put3 (Arr.drew A9 1) (.string ⟨#[]⟩) (.slice none 0 0) (.string ⟨#[]⟩)
          have E10 := ext_put3 (E9.drN 1) (Nat.le_refl _) (.string ⟨#[]⟩) (.slice none 0 0) (.string ⟨#[]⟩)
          clear A9 E9
          go_wp2
          go_region
          go_wp2
          exact ret_got (r := (tok0, _)) rfl rfl rfl A10 E10 (World.ownsRow_nil _ _ _ _)
        · have d1 : decide ((ys.length : Int) < 32) = false := by simp; omega
          by_cases h2 : 32 < ys.length
          · have d2 : decide ((32 : Int) < (ys.length : Int)) = true := by simp; omega
            have hRe : R = (tok0, 2) := by rw [hG.out, if_neg (by decide), if_neg h1, if_pos h2]
            subst hRe
            have cF := r8fail (ys, 0) 2 wr
            rw [show rFail (ys, 0) 2 = ([], 2) from rfl] at cF
            unfold rv at cF
            have cF := Kp.mk cF
            clear hG h1 h2
            go_wp2_with fail
            refine cF.out.mono ?_
            rintro e w5 ⟨rfl, E5⟩
            have S5 := hS.up E5
            clear hS E5 r0 r1 zr0 zr1 cF
            have p0 := S5.rd.cell 0; have p1 := S5.rd.cell 1; have z0 := S5.rd.frozen 0; have z1 := S5.rd.frozen 1
            simp only [List.getElem?_cons_zero, List.getElem?_cons_succ] at p0 p1
            have S6 := S5.put (by omega) ([], 2)
            obtain ⟨W6, hW6⟩ : ∃ W6, (w5.setCell ⟨rb, 0, none⟩ (.string (ofL []))).setCell ⟨rb, 1, none⟩ (.int .i64 2) = W6 := ⟨_, rfl⟩
            rw [hW6] at S6
            have HW6 := Kp.mk hW6
            clear S5 hW6
            go_upto_region 24 with fail
            rw [HW6.out]
            clear HW6 p0 p1 z0 z1
            have r0 := S6.rd.cell 0; have r1 := S6.rd.cell 1
            simp only [List.getElem?_cons_zero, List.getElem?_cons_succ] at r0 r1
            have t3 : ((2 : Int) != 0) = true := rfl
            have A9 := S6.res; have E9 := S6.ext
            clear S6
            have p0 := A9.cell 0; have p1 := A9.cell 1; have p2 := A9.cell 2; have y0 := A9.frozen 0; have y1 := A9.frozen 1; have y2 := A9.frozen 2
            simp only [List.getElem?_cons_zero, List.getElem?_cons_succ] at p0 p1 p2
            have A10 := arr_put3 (Arr.drew A9 1) (.string ⟨#[]⟩) (.slice none 0 0) (.string ⟨#[]⟩)
            have E10 := ext_put3 (E9.drN 1) (Nat.le_refl _) (.string ⟨#[]⟩) (.slice none 0 0) (.string ⟨#[]⟩)
            clear A9 E9
            go_wp2
            go_region
            go_wp2
            exact ret_got (r := (tok0, _)) rfl rfl rfl A10 E10 (World.ownsRow_nil _ _ _ _)
          · have d2 : decide ((32 : Int) < (ys.length : Int)) = false := by simp; omega
            have hRe : R = (⟨idl, l, ys⟩, 0) := by rw [hG.out, if_neg (by decide), if_neg h1, if_neg h2]
            subst hRe
            clear hG h1 h2
            have b2 := hS.tok.cell 2; have z2 := hS.tok.frozen 2
            simp only [List.getElem?_cons_zero, List.getElem?_cons_succ] at b2
            have A6 := hS.res.other (g' := w.heap.size + 1) (j := 2) (.string (ofL ys)) (by omega)
            have E6 := hS.ext.st (p := ⟨w.heap.size + 1, 2, none⟩) (by show w.heap.size ≤ w.heap.size + 1; omega) (.string (ofL ys))
            have O6 := own_set_other hS.own hS.tok (by decide) (j := 2) (.string (ofL ys))
            have B6 := hS.tok.set 2 (.string (ofL ys))
            obtain ⟨W6, hW6⟩ : ∃ W6, wr.setCell ⟨w.heap.size + 1, 2, none⟩ (.string (ofL ys)) = W6 := ⟨_, rfl⟩
            rw [hW6] at A6 E6 O6 B6
            have HW6 := Kp.mk hW6
            clear hS hW6
            go_upto_region 27 with fail
            rw [HW6.out]
            clear HW6 b2 z2 r0 r1 zr0 zr1
            have b0 := B6.cell 0; have b1 := B6.cell 1; have b2 := B6.cell 2
            have p0 := A6.cell 0; have p1 := A6.cell 1; have p2 := A6.cell 2; have y0 := A6.frozen 0; have y1 := A6.frozen 1; have y2 := A6.frozen 2
            simp only [List.getElem?_cons_zero, List.getElem?_cons_succ, List.set] at b0 b1 b2 p0 p1 p2
            have A10 := arr_put3 A6 (.string (ofL idl)) (.slice A l.length c) (.string (ofL ys))
            have E10 := ext_put3 E6 (Nat.le_refl _) (.string (ofL idl)) (.slice A l.length c) (.string (ofL ys))
            have O10 := own_set_other (own_set_other (own_set_other O6 A6 (by decide) (j := 0) (.string (ofL idl))) (A6.set 0 (.string (ofL idl))) (by decide) (j := 1) (.slice A l.length c)) ((A6.set 0 (.string (ofL idl))).set 1 (.slice A l.length c)) (by decide) (j := 2) (.string (ofL ys))
            clear A6 E6 O6 B6
            go_wp2
            exact ret_got (r := (⟨idl, l, ys⟩, 0)) rfl rfl rfl A10 E10 (own_more O10 (by omega))
      · have t1 : (ye == 0) = false := beq_int_f he
        have t2 : (ye != 0) = true := bne_int_t he
        have hRe : R = (tok0, ye) := by rw [hG.out, if_pos he]
        subst hRe
        have A9 := hS.res; have E9 := hS.ext
        clear hG he hS
        have p0 := A9.cell 0; have p1 := A9.cell 1; have p2 := A9.cell 2; have y0 := A9.frozen 0; have y1 := A9.frozen 1; have y2 := A9.frozen 2
        simp only [List.getElem?_cons_zero, List.getElem?_cons_succ] at p0 p1 p2
        have A10 := arr_put3 (Arr.drew A9 1) (.string ⟨#[]⟩) (.slice none 0 0) (.string ⟨#[]⟩)
        have E10 := ext_put3 (E9.drN 1) (Nat.le_refl _) (.string ⟨#[]⟩) (.slice none 0 0) (.string ⟨#[]⟩)
        clear A9 E9
        go_wp2
        go_region
        go_wp2
        exact ret_got (r := (tok0, _)) rfl rfl rfl A10 E10 (World.ownsRow_nil _ _ _ _)
end Go.Proofs.YtmnpbpfeoackiaaDoor
