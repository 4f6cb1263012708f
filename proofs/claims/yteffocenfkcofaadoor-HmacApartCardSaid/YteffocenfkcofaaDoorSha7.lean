/-
  Package sha: a step over a block. Conditions: the package's table holds the 64 constants.
-/
import Derived.Test.YteffocenfkcofaaDoorSha6
import Derived.Deep.WholeRow
namespace Go.Proofs.YteffocenfkcofaaDoor
open Go.RowKit

/-- The package's table holds the constants. -/
def Tab (w : World) : Prop := 0 < w.heap.size ∧ ∀ i, i < 64 → w.cell? ⟨0, i, none⟩ = some (W32 (kTab.getD i 0))
theorem Tab.ext {w w' : World} (h : Tab w) (hE : Ext w w') : Tab w' :=
  ⟨by have := hE.size; have := h.1; omega, fun i hi => ((bcell hE).1 _ _ h.1).trans (h.2 i hi)⟩
theorem schedule_as (b : List UInt8) (S : List UInt32) (hb : b.length = 64) (hS : schedL b = S) (w : World) : Calls Tryd.prog 99 #[.string (ofL b)] w fun e w' => e = .returned (.agg (S.map W32).toArray) ∧ Ext w w' := by
  rw [← hS]; exact schedule_any b w hb

theorem index8_0 (x0 x1 x2 x3 x4 x5 x6 x7 : UInt32) (W : World) : (Instr.index 91 (.agg #[W32 x0, W32 x1, W32 x2, W32 x3, W32 x4, W32 x5, W32 x6, W32 x7]) (.int .i64 0)).run Tryd.prog W = .ok (W32 x0) W := by
  simp [Instr.index, run_underlying Tryd.underlying91, asIntOf, go_sem]
theorem index8_1 (x0 x1 x2 x3 x4 x5 x6 x7 : UInt32) (W : World) : (Instr.index 91 (.agg #[W32 x0, W32 x1, W32 x2, W32 x3, W32 x4, W32 x5, W32 x6, W32 x7]) (.int .i64 1)).run Tryd.prog W = .ok (W32 x1) W := by
  simp [Instr.index, run_underlying Tryd.underlying91, asIntOf, go_sem]
theorem index8_2 (x0 x1 x2 x3 x4 x5 x6 x7 : UInt32) (W : World) : (Instr.index 91 (.agg #[W32 x0, W32 x1, W32 x2, W32 x3, W32 x4, W32 x5, W32 x6, W32 x7]) (.int .i64 2)).run Tryd.prog W = .ok (W32 x2) W := by
  simp [Instr.index, run_underlying Tryd.underlying91, asIntOf, go_sem]
theorem index8_3 (x0 x1 x2 x3 x4 x5 x6 x7 : UInt32) (W : World) : (Instr.index 91 (.agg #[W32 x0, W32 x1, W32 x2, W32 x3, W32 x4, W32 x5, W32 x6, W32 x7]) (.int .i64 3)).run Tryd.prog W = .ok (W32 x3) W := by
  simp [Instr.index, run_underlying Tryd.underlying91, asIntOf, go_sem]
theorem index8_4 (x0 x1 x2 x3 x4 x5 x6 x7 : UInt32) (W : World) : (Instr.index 91 (.agg #[W32 x0, W32 x1, W32 x2, W32 x3, W32 x4, W32 x5, W32 x6, W32 x7]) (.int .i64 4)).run Tryd.prog W = .ok (W32 x4) W := by
  simp [Instr.index, run_underlying Tryd.underlying91, asIntOf, go_sem]
theorem index8_5 (x0 x1 x2 x3 x4 x5 x6 x7 : UInt32) (W : World) : (Instr.index 91 (.agg #[W32 x0, W32 x1, W32 x2, W32 x3, W32 x4, W32 x5, W32 x6, W32 x7]) (.int .i64 5)).run Tryd.prog W = .ok (W32 x5) W := by
  simp [Instr.index, run_underlying Tryd.underlying91, asIntOf, go_sem]
theorem index8_6 (x0 x1 x2 x3 x4 x5 x6 x7 : UInt32) (W : World) : (Instr.index 91 (.agg #[W32 x0, W32 x1, W32 x2, W32 x3, W32 x4, W32 x5, W32 x6, W32 x7]) (.int .i64 6)).run Tryd.prog W = .ok (W32 x6) W := by
  simp [Instr.index, run_underlying Tryd.underlying91, asIntOf, go_sem]
theorem index8_7 (x0 x1 x2 x3 x4 x5 x6 x7 : UInt32) (W : World) : (Instr.index 91 (.agg #[W32 x0, W32 x1, W32 x2, W32 x3, W32 x4, W32 x5, W32 x6, W32 x7]) (.int .i64 7)).run Tryd.prog W = .ok (W32 x7) W := by
  simp [Instr.index, run_underlying Tryd.underlying91, asIntOf, go_sem]
theorem store64 (S : List UInt32) (hl : S.length = 64) (W : World) : (storeCells ⟨W.heap.size, 0, none⟩ (S.map W32)).run Tryd.prog (W.alloc (.cells #[.int .u32 0, .int .u32 0, .int .u32 0, .int .u32 0, .int .u32 0, .int .u32 0, .int .u32 0, .int .u32 0, .int .u32 0, .int .u32 0, .int .u32 0, .int .u32 0, .int .u32 0, .int .u32 0, .int .u32 0, .int .u32 0, .int .u32 0, .int .u32 0, .int .u32 0, .int .u32 0, .int .u32 0, .int .u32 0, .int .u32 0, .int .u32 0, .int .u32 0, .int .u32 0, .int .u32 0, .int .u32 0, .int .u32 0, .int .u32 0, .int .u32 0, .int .u32 0, .int .u32 0, .int .u32 0, .int .u32 0, .int .u32 0, .int .u32 0, .int .u32 0, .int .u32 0, .int .u32 0, .int .u32 0, .int .u32 0, .int .u32 0, .int .u32 0, .int .u32 0, .int .u32 0, .int .u32 0, .int .u32 0, .int .u32 0, .int .u32 0, .int .u32 0, .int .u32 0, .int .u32 0, .int .u32 0, .int .u32 0, .int .u32 0, .int .u32 0, .int .u32 0, .int .u32 0, .int .u32 0, .int .u32 0, .int .u32 0, .int .u32 0, .int .u32 0] 116)) = .ok () (W.alloc (.cells (S.map W32).toArray 116)) := by
  have := run_storeCells_new (P := Tryd.prog) W 116 #[.int .u32 0, .int .u32 0, .int .u32 0, .int .u32 0, .int .u32 0, .int .u32 0, .int .u32 0, .int .u32 0, .int .u32 0, .int .u32 0, .int .u32 0, .int .u32 0, .int .u32 0, .int .u32 0, .int .u32 0, .int .u32 0, .int .u32 0, .int .u32 0, .int .u32 0, .int .u32 0, .int .u32 0, .int .u32 0, .int .u32 0, .int .u32 0, .int .u32 0, .int .u32 0, .int .u32 0, .int .u32 0, .int .u32 0, .int .u32 0, .int .u32 0, .int .u32 0, .int .u32 0, .int .u32 0, .int .u32 0, .int .u32 0, .int .u32 0, .int .u32 0, .int .u32 0, .int .u32 0, .int .u32 0, .int .u32 0, .int .u32 0, .int .u32 0, .int .u32 0, .int .u32 0, .int .u32 0, .int .u32 0, .int .u32 0, .int .u32 0, .int .u32 0, .int .u32 0, .int .u32 0, .int .u32 0, .int .u32 0, .int .u32 0, .int .u32 0, .int .u32 0, .int .u32 0, .int .u32 0, .int .u32 0, .int .u32 0, .int .u32 0, .int .u32 0] (S.map W32).toArray (Tryd.info64 (by simp [hl])) (by simp [hl]) (by simp [Value.oneCell'])
  simpa using this

set_option maxRecDepth 100000 in
set_option maxHeartbeats 4000000 in
theorem step_any (v : St) (b : List UInt8) (w : World) (hT : Tab w) (hb : b.length = 64) : Calls Tryd.prog 92 #[stV v, .string (ofL b)] w fun e w' => e = .returned (stV (stepS v b)) ∧ Ext w w' := by
  obtain ⟨S, hS⟩ : ∃ S, schedL b = S := ⟨_, rfl⟩
  have hc := schedule_as b S hb hS
  have hl : S.length = 64 := by rw [← hS, length_schedL]
  have hr : stepS v b = addS v (roundsS S v 64) := by unfold stepS; rw [if_neg (by omega), hS]
  have HC := Lib.hid hc; clear hc hS
  have HR := Lib.hid hr; clear hr
  obtain ⟨a, b1, c, d, e, f, g, i⟩ := v
  go_enter Tryd.func92, Tryd.ntmps92
  have hst := store64 S hl
  go_upto_region 4 with ((with_reducible refine (HC.out _).mono ?_); rintro e w2 ⟨rfl, hE2⟩)
  have A0 : Arr (w2.alloc (.cells (S.map W32).toArray 116)) w.heap.size 92 [W32 a, W32 b1, W32 c, W32 d, W32 e, W32 f, W32 g, W32 i] :=
    (((Arr.new w 92 [W32 a, W32 b1, W32 c, W32 d, W32 e, W32 f, W32 g, W32 i]).alloc _).ext hE2 (by simp; omega)).alloc _
  have A1 : Arr (w2.alloc (.cells (S.map W32).toArray 116)) (w.heap.size + 1) 92 (List.replicate 8 (.int .u32 0)) := by
    have h := Arr.new (w.alloc (.cells (stCells ⟨a, b1, c, d, e, f, g, i⟩) 92)) 92 (List.replicate 8 (.int .u32 0))
    rw [show (w.alloc (.cells (stCells ⟨a, b1, c, d, e, f, g, i⟩) 92)).heap.size = w.heap.size + 1 by simp] at h
    exact (h.ext hE2 (by simp)).alloc _
  have A2 : Arr (w2.alloc (.cells (S.map W32).toArray 116)) w2.heap.size 116 (S.map W32) := Arr.new _ _ _
  have hE : Ext w (w2.alloc (.cells (S.map W32).toArray 116)) := ((((Ext.rfl' w).al _).al _).tr hE2).al _
  have hz : w.heap.size + 1 < w2.heap.size := by have := hE2.size; simp at this; omega
  have T1 : Tab (w2.alloc (.cells (S.map W32).toArray 116)) := hT.ext hE
  generalize w2.alloc (.cells (S.map W32).toArray 116) = W at *
  clear hE2 hst
  have c0 := A0.cell 0
  have c1 := A0.cell 1
  have c2 := A0.cell 2
  have c3 := A0.cell 3
  have c4 := A0.cell 4
  have c5 := A0.cell 5
  have c6 := A0.cell 6
  have c7 := A0.cell 7
  simp only [List.getElem?_cons_zero, List.getElem?_cons_succ] at c0 c1 c2 c3 c4 c5 c6 c7
  go_quiet (fail)
  clear c0 c1 c2 c3 c4 c5 c6 c7
  go_wp2
  have hE0 : Ext w (W.drewN nq) := hE.drN nq
  have B0 := A0.drew nq; have B1 := A1.drew nq; have B2 := A2.drew nq
  clear A0 A1 A2 hE T1
  generalize W.drewN nq = W' at *
  go_loopw [6, 7, 8, 9, 10, 11, 12, 13, 43] (fun x6 x7 x8 x9 x10 x11 x12 x13 tt wr => ∃ t : Nat, ∃ u : St, t ≤ 64 ∧ tt = .int .i64 t ∧ x6 = W32 u.a ∧ x7 = W32 u.b ∧ x8 = W32 u.c ∧ x9 = W32 u.d ∧ x10 = W32 u.e ∧ x11 = W32 u.f ∧ x12 = W32 u.g ∧ x13 = W32 u.h ∧ roundsS S ⟨a, b1, c, d, e, f, g, i⟩ t = u ∧ Ext w wr ∧
    Arr wr w.heap.size 92 [W32 a, W32 b1, W32 c, W32 d, W32 e, W32 f, W32 g, W32 i] ∧ Arr wr (w.heap.size + 1) 92 (List.replicate 8 (.int .u32 0)) ∧ Arr wr w2.heap.size 116 (S.map W32)) (fun _ _ _ _ _ _ _ _ tt _ => 64 - (intOf tt).toNat)
  case atStart => exact ⟨0, ⟨a, b1, c, d, e, f, g, i⟩, by omega, rfl, rfl, rfl, rfl, rfl, rfl, rfl, rfl, rfl, rfl, hE0, B0, B1, B2⟩
  case round =>
    obtain ⟨t, ⟨ya, yb, yc, yd, ye, yf, yg, yh⟩, ht, rfl, rfl, rfl, rfl, rfl, rfl, rfl, rfl, rfl, hR0, hE, A0, A1, A2⟩ := hrel
    have HRr := Lib.hid hR0; clear hR0
    clear hE0 B0 B1 B2
    by_cases hlt : t < 64
    · have T1 := hT.ext hE
      have ck0 := T1.2 t hlt
      have cs0 : wr.cell? ⟨w2.heap.size, t, none⟩ = some (W32 (S.getD t 0)) := by
        rw [A2.cell t, List.getElem?_map, List.getElem?_eq_getElem (by omega), List.getD_eq_getElem?_getD, List.getElem?_eq_getElem (by omega)]
        rfl
      generalize hk : kTab.getD t 0 = k at ck0
      generalize hx : S.getD t 0 = x at cs0
      obtain ⟨s1, h1⟩ : ∃ s1, bsg1 ye = s1 := ⟨_, rfl⟩
      obtain ⟨s0, h0⟩ : ∃ s0, bsg0 ya = s0 := ⟨_, rfl⟩
      obtain ⟨a1, e1⟩ : ∃ z, yh + s1 = z := ⟨_, rfl⟩
      obtain ⟨ef, e2⟩ : ∃ z, ye &&& yf = z := ⟨_, rfl⟩
      obtain ⟨ne, e3⟩ : ∃ z, ~~~ye = z := ⟨_, rfl⟩
      obtain ⟨neg, e4⟩ : ∃ z, ne &&& yg = z := ⟨_, rfl⟩
      obtain ⟨ch, e5⟩ : ∃ z, ef ^^^ neg = z := ⟨_, rfl⟩
      obtain ⟨a2, e6⟩ : ∃ z, a1 + ch = z := ⟨_, rfl⟩
      obtain ⟨a3, e7⟩ : ∃ z, a2 + k = z := ⟨_, rfl⟩
      obtain ⟨t1, e8⟩ : ∃ z, a3 + x = z := ⟨_, rfl⟩
      obtain ⟨m1, e9⟩ : ∃ z, ya &&& yb = z := ⟨_, rfl⟩
      obtain ⟨m2, e10⟩ : ∃ z, ya &&& yc = z := ⟨_, rfl⟩
      obtain ⟨m3, e11⟩ : ∃ z, m1 ^^^ m2 = z := ⟨_, rfl⟩
      obtain ⟨m4, e12⟩ : ∃ z, yb &&& yc = z := ⟨_, rfl⟩
      obtain ⟨m5, e13⟩ : ∃ z, m3 ^^^ m4 = z := ⟨_, rfl⟩
      obtain ⟨t2, e14⟩ : ∃ z, s0 + m5 = z := ⟨_, rfl⟩
      obtain ⟨na, e15⟩ : ∃ z, t1 + t2 = z := ⟨_, rfl⟩
      obtain ⟨nd, e16⟩ : ∃ z, yd + t1 = z := ⟨_, rfl⟩
      have hround : roundS ⟨ya, yb, yc, yd, ye, yf, yg, yh⟩ k x = ⟨na, ya, yb, yc, nd, ye, yf, yg⟩ := by
        unfold roundS
        simp only [h0, h1, e1, e2, e3, e4, e5, e6, e7, e8, e9, e10, e11, e12, e13, e14, e15, e16]
      have hnext : roundsS S ⟨a, b1, c, d, e, f, g, i⟩ (t + 1) = ⟨na, ya, yb, yc, nd, ye, yf, yg⟩ := by
        rw [← hround, ← hk, ← hx, ← HRr.out]; rfl
      have HN := Lib.hid hnext
      have F1 : bits .xor .u32 (bits .xor .u32 ((rotr ye 6).toNat : Int) (rotr ye 11).toNat) ((rotr ye 25).toNat : Int) = (s1.toNat : Int) := by
        rw [u32_xor, u32_xor, ← h1]; rfl
      have F0 : bits .xor .u32 (bits .xor .u32 ((rotr ya 2).toNat : Int) (rotr ya 13).toNat) ((rotr ya 22).toNat : Int) = (s0.toNat : Int) := by
        rw [u32_xor, u32_xor, ← h0]; rfl
      have G1 : IntKind.u32.wrap ((yh.toNat : Int) + s1.toNat) = a1.toNat := by rw [u32_wadd, e1]
      have G2 : bits .and .u32 (ye.toNat : Int) yf.toNat = ef.toNat := by rw [u32_and, e2]
      have G3 : bits .xor .u32 (if IntKind.u32.signed = true then (-1 : Int) else IntKind.u32.max) (ye.toNat : Int) = ne.toNat := by rw [← e3]; exact u32_not ye
      have G4 : bits .and .u32 (ne.toNat : Int) yg.toNat = neg.toNat := by rw [u32_and, e4]
      have G5 : bits .xor .u32 (ef.toNat : Int) neg.toNat = ch.toNat := by rw [u32_xor, e5]
      have G6 : IntKind.u32.wrap ((a1.toNat : Int) + ch.toNat) = a2.toNat := by rw [u32_wadd, e6]
      have G7 : IntKind.u32.wrap ((a2.toNat : Int) + k.toNat) = a3.toNat := by rw [u32_wadd, e7]
      have G8 : IntKind.u32.wrap ((a3.toNat : Int) + x.toNat) = t1.toNat := by rw [u32_wadd, e8]
      have G9 : bits .and .u32 (ya.toNat : Int) yb.toNat = m1.toNat := by rw [u32_and, e9]
      have G10 : bits .and .u32 (ya.toNat : Int) yc.toNat = m2.toNat := by rw [u32_and, e10]
      have G11 : bits .xor .u32 (m1.toNat : Int) m2.toNat = m3.toNat := by rw [u32_xor, e11]
      have G12 : bits .and .u32 (yb.toNat : Int) yc.toNat = m4.toNat := by rw [u32_and, e12]
      have G13 : bits .xor .u32 (m3.toNat : Int) m4.toNat = m5.toNat := by rw [u32_xor, e13]
      have G14 : ((s0.toNat : Int) + m5.toNat) % 4294967296 = t2.toNat := by rw [u32_add, e14]
      have G15 : ((t1.toNat : Int) + t2.toNat) % 4294967296 = na.toNat := by rw [u32_add, e15]
      have G16 : ((yd.toNat : Int) + t1.toNat) % 4294967296 = nd.toNat := by rw [u32_add, e16]
      clear hk hx h0 h1 e1 e2 e3 e4 e5 e6 e7 e8 e9 e10 e11 e12 e13 e14 e15 e16 hround hnext HRr T1
      go_upto_region 9 with (first
        | ((with_reducible refine (rot6 _ _).mono ?_); rintro e w' ⟨rfl, rfl⟩)
        | ((with_reducible refine (rot11 _ _).mono ?_); rintro e w' ⟨rfl, rfl⟩)
        | ((with_reducible refine (rot25 _ _).mono ?_); rintro e w' ⟨rfl, rfl⟩))
      go_quiet (fail)
      go_wp2_with (first
        | ((with_reducible refine (rot2 _ _).mono ?_); rintro e w' ⟨rfl, rfl⟩)
        | ((with_reducible refine (rot13 _ _).mono ?_); rintro e w' ⟨rfl, rfl⟩)
        | ((with_reducible refine (rot22 _ _).mono ?_); rintro e w' ⟨rfl, rfl⟩))
      go_roundw
      case rel => exact ⟨t + 1, ⟨na, ya, yb, yc, nd, ye, yf, yg⟩, by omega, by go_num, (by first | rfl | (show Value.int .u32 _ = Value.int .u32 _; rw [G15])), rfl, rfl, rfl, (by first | rfl | (show Value.int .u32 _ = Value.int .u32 _; rw [G16])), rfl, rfl, rfl, HN.out, hE.drN _, A0, A1, A2⟩
      case measure => simp [intOf]; omega
    · have h64 : t = 64 := by omega
      obtain ⟨z0, hz0⟩ : ∃ z, a + ya = z := ⟨_, rfl⟩
      have S0 : ((a.toNat : Int) + ya.toNat) % 4294967296 = z0.toNat := by rw [u32_add, hz0]
      obtain ⟨z1, hz1⟩ : ∃ z, b1 + yb = z := ⟨_, rfl⟩
      have S1 : ((b1.toNat : Int) + yb.toNat) % 4294967296 = z1.toNat := by rw [u32_add, hz1]
      obtain ⟨z2, hz2⟩ : ∃ z, c + yc = z := ⟨_, rfl⟩
      have S2 : ((c.toNat : Int) + yc.toNat) % 4294967296 = z2.toNat := by rw [u32_add, hz2]
      obtain ⟨z3, hz3⟩ : ∃ z, d + yd = z := ⟨_, rfl⟩
      have S3 : ((d.toNat : Int) + yd.toNat) % 4294967296 = z3.toNat := by rw [u32_add, hz3]
      obtain ⟨z4, hz4⟩ : ∃ z, e + ye = z := ⟨_, rfl⟩
      have S4 : ((e.toNat : Int) + ye.toNat) % 4294967296 = z4.toNat := by rw [u32_add, hz4]
      obtain ⟨z5, hz5⟩ : ∃ z, f + yf = z := ⟨_, rfl⟩
      have S5 : ((f.toNat : Int) + yf.toNat) % 4294967296 = z5.toNat := by rw [u32_add, hz5]
      obtain ⟨z6, hz6⟩ : ∃ z, g + yg = z := ⟨_, rfl⟩
      have S6 : ((g.toNat : Int) + yg.toNat) % 4294967296 = z6.toNat := by rw [u32_add, hz6]
      obtain ⟨z7, hz7⟩ : ∃ z, i + yh = z := ⟨_, rfl⟩
      have S7 : ((i.toNat : Int) + yh.toNat) % 4294967296 = z7.toNat := by rw [u32_add, hz7]
      have hr : stepS ⟨a, b1, c, d, e, f, g, i⟩ b = ⟨z0, z1, z2, z3, z4, z5, z6, z7⟩ := by
        have h1 := HRr.out
        rw [h64] at h1
        rw [HR.out, h1]
        unfold addS
        simp only [hz0, hz1, hz2, hz3, hz4, hz5, hz6, hz7]
      have HRR := Lib.hid hr
      clear hr hz0 hz1 hz2 hz3 hz4 hz5 hz6 hz7 h64 HRr A2
      go_wp2
      refine wp_loop_rounds 9 ?_
      rw [rounds_succ]
      have ck := A0.cell 0
      have ix := index8_0 ya yb yc yd ye yf yg yh
      have cf := A0.frozen 0
      simp only [List.getElem?_cons_zero] at ck
      go_wp2
      clear ck cf ix
      have A0x1 := A0.set 0 (W32 z0)
      simp only [List.set_cons_zero] at A0x1
      have A1x1 := A1.other (g' := w.heap.size) (j := 0) (W32 z0) (by omega)
      have hEx1 := hE.st (p := ⟨w.heap.size, 0, none⟩) (Nat.le_refl _) (W32 z0)
      clear A0 A1 hE S0
      generalize World.setCell _ ⟨w.heap.size, 0, none⟩ (W32 z0) = V0 at *
      rw [rounds_succ]
      have ck := A0x1.cell 1
      have ix := index8_1 ya yb yc yd ye yf yg yh
      have cf := A0x1.frozen 1
      simp only [List.getElem?_cons_zero, List.getElem?_cons_succ] at ck
      go_wp2
      clear ck cf ix
      have A0x2 := A0x1.set 1 (W32 z1)
      simp only [List.set_cons_zero, List.set_cons_succ] at A0x2
      have A1x2 := A1x1.other (g' := w.heap.size) (j := 1) (W32 z1) (by omega)
      have hEx2 := hEx1.st (p := ⟨w.heap.size, 1, none⟩) (Nat.le_refl _) (W32 z1)
      clear A0x1 A1x1 hEx1 S1
      generalize World.setCell _ ⟨w.heap.size, 1, none⟩ (W32 z1) = V1 at *
      rw [rounds_succ]
      have ck := A0x2.cell 2
      have ix := index8_2 ya yb yc yd ye yf yg yh
      have cf := A0x2.frozen 2
      simp only [List.getElem?_cons_zero, List.getElem?_cons_succ] at ck
      go_wp2
      clear ck cf ix
      have A0x3 := A0x2.set 2 (W32 z2)
      simp only [List.set_cons_zero, List.set_cons_succ] at A0x3
      have A1x3 := A1x2.other (g' := w.heap.size) (j := 2) (W32 z2) (by omega)
      have hEx3 := hEx2.st (p := ⟨w.heap.size, 2, none⟩) (Nat.le_refl _) (W32 z2)
      clear A0x2 A1x2 hEx2 S2
      generalize World.setCell _ ⟨w.heap.size, 2, none⟩ (W32 z2) = V2 at *
      rw [rounds_succ]
      have ck := A0x3.cell 3
      have ix := index8_3 ya yb yc yd ye yf yg yh
      have cf := A0x3.frozen 3
      simp only [List.getElem?_cons_zero, List.getElem?_cons_succ] at ck
      go_wp2
      clear ck cf ix
      have A0x4 := A0x3.set 3 (W32 z3)
      simp only [List.set_cons_zero, List.set_cons_succ] at A0x4
      have A1x4 := A1x3.other (g' := w.heap.size) (j := 3) (W32 z3) (by omega)
      have hEx4 := hEx3.st (p := ⟨w.heap.size, 3, none⟩) (Nat.le_refl _) (W32 z3)
      clear A0x3 A1x3 hEx3 S3
      generalize World.setCell _ ⟨w.heap.size, 3, none⟩ (W32 z3) = V3 at *
      rw [rounds_succ]
      have ck := A0x4.cell 4
      have ix := index8_4 ya yb yc yd ye yf yg yh
      have cf := A0x4.frozen 4
      simp only [List.getElem?_cons_zero, List.getElem?_cons_succ] at ck
      go_wp2
      clear ck cf ix
      have A0x5 := A0x4.set 4 (W32 z4)
      simp only [List.set_cons_zero, List.set_cons_succ] at A0x5
      have A1x5 := A1x4.other (g' := w.heap.size) (j := 4) (W32 z4) (by omega)
      have hEx5 := hEx4.st (p := ⟨w.heap.size, 4, none⟩) (Nat.le_refl _) (W32 z4)
      clear A0x4 A1x4 hEx4 S4
      generalize World.setCell _ ⟨w.heap.size, 4, none⟩ (W32 z4) = V4 at *
      rw [rounds_succ]
      have ck := A0x5.cell 5
      have ix := index8_5 ya yb yc yd ye yf yg yh
      have cf := A0x5.frozen 5
      simp only [List.getElem?_cons_zero, List.getElem?_cons_succ] at ck
      go_wp2
      clear ck cf ix
      have A0x6 := A0x5.set 5 (W32 z5)
      simp only [List.set_cons_zero, List.set_cons_succ] at A0x6
      have A1x6 := A1x5.other (g' := w.heap.size) (j := 5) (W32 z5) (by omega)
      have hEx6 := hEx5.st (p := ⟨w.heap.size, 5, none⟩) (Nat.le_refl _) (W32 z5)
      clear A0x5 A1x5 hEx5 S5
      generalize World.setCell _ ⟨w.heap.size, 5, none⟩ (W32 z5) = V5 at *
      rw [rounds_succ]
      have ck := A0x6.cell 6
      have ix := index8_6 ya yb yc yd ye yf yg yh
      have cf := A0x6.frozen 6
      simp only [List.getElem?_cons_zero, List.getElem?_cons_succ] at ck
      go_wp2
      clear ck cf ix
      have A0x7 := A0x6.set 6 (W32 z6)
      simp only [List.set_cons_zero, List.set_cons_succ] at A0x7
      have A1x7 := A1x6.other (g' := w.heap.size) (j := 6) (W32 z6) (by omega)
      have hEx7 := hEx6.st (p := ⟨w.heap.size, 6, none⟩) (Nat.le_refl _) (W32 z6)
      clear A0x6 A1x6 hEx6 S6
      generalize World.setCell _ ⟨w.heap.size, 6, none⟩ (W32 z6) = V6 at *
      rw [rounds_succ]
      have ck := A0x7.cell 7
      have ix := index8_7 ya yb yc yd ye yf yg yh
      have cf := A0x7.frozen 7
      simp only [List.getElem?_cons_zero, List.getElem?_cons_succ] at ck
      go_wp2
      clear ck cf ix
      have A0x8 := A0x7.set 7 (W32 z7)
      simp only [List.set_cons_zero, List.set_cons_succ] at A0x8
      have A1x8 := A1x7.other (g' := w.heap.size) (j := 7) (W32 z7) (by omega)
      have hEx8 := hEx7.st (p := ⟨w.heap.size, 7, none⟩) (Nat.le_refl _) (W32 z7)
      clear A0x7 A1x7 hEx7 S7
      generalize World.setCell _ ⟨w.heap.size, 7, none⟩ (W32 z7) = V7 at *
      rw [rounds_succ]
      go_upto_region 19 with fail
      have R1 := A1x8.row [W32 z0, W32 z1, W32 z2, W32 z3, W32 z4, W32 z5, W32 z6, W32 z7]
      have hEr := hEx8.row (g := w.heap.size + 1) (by omega) #[W32 z0, W32 z1, W32 z2, W32 z3, W32 z4, W32 z5, W32 z6, W32 z7]
      refine wp_region_list ?_
      refine wpList_load_row rfl 92 _ rfl w.heap.size rfl _ _ _ _ A0x8 Tryd.underlying92 rfl (by kernel_rfl) ?_
      refine wpList_store_row rfl 92 _ _ rfl (w.heap.size + 1) _ rfl rfl _ _ A1x8 (by kernel_rfl) rfl (by simp [Value.oneCell']) ?_
      go_wp2
      refine bodyPost_ret (v := stV ⟨z0, z1, z2, z3, z4, z5, z6, z7⟩) (results_cell_row rfl _ _ (w.heap.size + 1) _ _ _ _ rfl R1 Tryd.underlying92 rfl (by kernel_rfl)) rfl ?_
      exact ⟨by rw [HRR.out], hEr⟩

/-- A block that is no block: nothing turns. -/
theorem step_no (v : St) (s : List UInt8) (w : World) (hs : s.length ≠ 64) : Calls Tryd.prog 92 #[stV v, .string (ofL s)] w fun e w' => e = .returned (stV v) ∧ Ext w w' := by
  have h1 : ((s.length : Int) != 64) = true := by simp; omega
  have hsz := size_ofL s
  clear hs
  obtain ⟨a, b1, c, d, e, f, g, i⟩ := v
  go_enter Tryd.func92, Tryd.ntmps92
  go_wp2
  exact bodyPost_ret (v := stV ⟨a, b1, c, d, e, f, g, i⟩) (by simp [results, Tryd.results92, go_sem]) rfl ⟨rfl, ((Ext.rfl' _).al _).al _⟩
end Go.Proofs.YteffocenfkcofaaDoor
