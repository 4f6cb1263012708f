/-
  Package rate: rates of one class begin. No condition.
-/
import Derived.Test.YtmnpbpfeoackiaaBw3
import Derived.Test.YtmnpbpfeoackiaaName
namespace Go.Proofs.Ytmnpbpfeoackiaa
open Go.RowKit

/-- Only one block, and what is new, has turned. -/
structure OneT (p : Nat) (w w' : World) : Prop where
  os : w'.os = w.os
  tape : w'.tape = w.tape
  output : w'.output = w.output
  size : w.heap.size ≤ w'.heap.size
  block : ∀ k, k < w.heap.size → k ≠ p → w'.heap[k]? = w.heap[k]?
theorem OneT.of {p : Nat} {a b : World} (k : Ext a b) : OneT p a b := ⟨k.os, k.tape, k.output, k.size, fun i hi _ => k.block i hi⟩
theorem OneT.tr {p : Nat} {a b c : World} (h : OneT p a b) (k : OneT p b c) : OneT p a c :=
  ⟨k.os.trans h.os, k.tape.trans h.tape, k.output.trans h.output, Nat.le_trans h.size k.size, fun i hi h1 => (k.block i (Nat.lt_of_lt_of_le hi h.size) h1).trans (h.block i hi h1)⟩
theorem OneT.ext {p : Nat} {a b c : World} (h : OneT p a b) (k : Ext b c) : OneT p a c := h.tr (.of k)
theorem OneT.st {p : Nat} {a b : World} (h : OneT p a b) (i : Nat) (u : Value) : OneT p a (b.setCell ⟨p, i, none⟩ u) :=
  ⟨h.os, h.tape, h.output, by simpa [World.setCell] using h.size, fun k hk h1 => (Below.heap_setCell b ⟨p, i, none⟩ u k (fun e => h1 e)).trans (h.block k hk h1)⟩
theorem OneT.toExt {p : Nat} {w a b : World} (h : OneT p a b) (hE : Ext w a) (hp : w.heap.size ≤ p) : Ext w b :=
  ⟨h.os.trans hE.os, h.tape.trans hE.tape, h.output.trans hE.output, Nat.le_trans hE.size h.size, fun k hk => (h.block k (Nat.lt_of_lt_of_le hk hE.size) (by omega)).trans (hE.block k hk)⟩
theorem OneT.arr {p k : Nat} {a b : World} {t : TypeId} {xs : List Value} (h : OneT p a b) (hA : Arr a k t xs) (h1 : k ≠ p) : Arr b k t xs := (h.block k hA.lt h1).trans hA

def timedB (n : Int) : Bool := decide (0 ≤ n) && decide (n ≤ 1099511627776)
theorem timed_any (n : Int) (w : World) : Calls Try.prog 30 #[.int .i64 n] w fun e w' => e = .returned (.bool (timedB n)) ∧ Ext w w' := by
  by_cases h1 : 0 ≤ n
  · by_cases h2 : n ≤ 1099511627776
    · have q1 : decide ((0 : Int) ≤ n) = true := decide_eq_true h1
      have q2 : decide (n ≤ (1099511627776 : Int)) = true := decide_eq_true h2
      rw [show timedB n = true by unfold timedB; rw [q1, q2]; rfl]
      go_enter Try.func30, Try.ntmps30
      go_wp2
      go_ret
      exact ⟨rfl, Ext.rfl' _⟩
    · have q1 : decide ((0 : Int) ≤ n) = true := decide_eq_true h1
      have q2 : decide (n ≤ (1099511627776 : Int)) = false := decide_eq_false h2
      rw [show timedB n = false by unfold timedB; rw [q1, q2]; rfl]
      go_enter Try.func30, Try.ntmps30
      go_wp2
      go_ret
      exact ⟨rfl, Ext.rfl' _⟩
  · have q1 : decide ((0 : Int) ≤ n) = false := decide_eq_false h1
    rw [show timedB n = false by unfold timedB; rw [q1]; rfl]
    go_enter Try.func30, Try.ntmps30
    go_wp2
    go_ret
    exact ⟨rfl, Ext.rfl' _⟩
theorem gold_word (w : World) : Calls Try.prog 45 #[.string ⟨#[103, 111, 108, 100]⟩] w fun e w' => e = .returned (.bool true) ∧ Ext w w' := by
  have h := word_any ⟨#[103, 111, 108, 100]⟩ w
  rw [show wordL (toL (⟨#[103, 111, 108, 100]⟩ : ByteArray)) = true by decide] at h
  exact h

set_option maxRecDepth 100000 in
set_option maxHeartbeats 1000000 in
theorem check_any (g c : Nat) (cap fill : Int) (w : World) (c0 : w.cell? ⟨g, 0, none⟩ = some (.string ⟨#[103, 111, 108, 100]⟩)) (c1 : w.cell? ⟨g, 1, none⟩ = some (.int .i64 cap)) (c2 : w.cell? ⟨g, 2, none⟩ = some (.int .i64 fill)) (hg : g < w.heap.size) :
    Calls Try.prog 29 #[.slice (some ⟨g, 0, none⟩) 1 c] w fun e w' => e = .returned (.int .i64 (if (timedB cap && timedB fill) = true then 0 else 7)) ∧ Ext w w' := by
  have hmm := @run_makeMap Try.prog
  have cC := Kp.mk (fun W => timed_any cap W)
  have cF := Kp.mk (fun W => timed_any fill W)
  obtain ⟨tc, htc⟩ : ∃ b, timedB cap = b := ⟨_, rfl⟩
  obtain ⟨tf, htf⟩ : ∃ b, timedB fill = b := ⟨_, rfl⟩
  rw [htc] at cC ⊢
  rw [htf] at cF ⊢
  obtain ⟨r, hr⟩ : ∃ r : Int, (if (tc && tf) = true then (0 : Int) else 7) = r := ⟨_, rfl⟩
  rw [hr]
  have HR := Kp.mk hr
  clear htc htf hr
  obtain ⟨W1, hW1, E1, hm1⟩ : ∃ W, w.alloc (.map #[] 0) = W ∧ Ext w W ∧ W.heap[w.heap.size]? = some (.map #[] 0) := ⟨_, rfl, (Ext.rfl' w).al _, (MapKept.heap_alloc w _).1⟩
  have HW1 := Kp.mk hW1
  clear hW1
  go_enter Try.func29, Try.ntmps29
  go_upto_region 4 with fail
  rw [HW1.out]
  clear HW1 hmm
  go_upto_region 5 with fail
  go_loopw [14] (fun i wr => (i = .int .i64 0 ∧ wr = W1) ∨ (i = .int .i64 1 ∧ Ext w wr ∧ r = 0)) (fun i _ => 1 - (intOf i).toNat)
  case atStart => exact .inl ⟨rfl, rfl⟩
  case round =>
    rcases hrel with ⟨rfl, rfl⟩ | ⟨rfl, E, rfl⟩
    · replace c0 := ((bcell E1).1 g 0 hg).trans c0
      replace c1 := ((bcell E1).1 g 1 hg).trans c1
      replace c2 := ((bcell E1).1 g 2 hg).trans c2
      go_upto_region 7 with fail
      obtain ⟨W3, hW3, E3, A3⟩ : ∃ W, wr.alloc (.cells #[.string ⟨#[103, 111, 108, 100]⟩, .int .i64 cap, .int .i64 fill] 23) = W ∧ Ext wr W ∧ Arr W wr.heap.size 23 [.string ⟨#[103, 111, 108, 100]⟩, .int .i64 cap, .int .i64 fill] := ⟨_, rfl, (Ext.rfl' wr).al _, Arr.new wr _ [.string ⟨#[103, 111, 108, 100]⟩, .int .i64 cap, .int .i64 fill]⟩
      rw [hW3]
      have hm3 := (E3.block _ (Array.getElem?_eq_some_iff.1 hm1).1).trans hm1
      have hl := run_seenGet w.heap.size W3 hm3
      have F3 := E1.tr E3
      have d0 := A3.cell 0; have d1 := A3.cell 1; have d2 := A3.cell 2
      simp only [List.getElem?_cons_zero, List.getElem?_cons_succ] at d0 d1 d2
      have hlt1 := (Array.getElem?_eq_some_iff.1 hm1).1
      have HM3 := Kp.mk (fun W (hW : Ext W3 W) => (hW.block _ (Array.getElem?_eq_some_iff.1 hm3).1).trans hm3)
      clear c0 c1 c2 hW3 hm1 E3 hm3 E1
      cases tc with
      | false =>
        obtain rfl : r = 7 := HR.out.symm
        go_wp2_with fail
        refine (gold_word _).mono ?_
        rintro e W4 ⟨rfl, E4⟩
        have A4 := A3.ext E4 A3.lt
        have F4 := F3.tr E4
        have EE := E4
        clear E4 F3 A3 d0 d1 d2
        have d0 := A4.cell 0; have d1 := A4.cell 1; have d2 := A4.cell 2
        simp only [List.getElem?_cons_zero, List.getElem?_cons_succ] at d0 d1 d2
        go_wp2_with fail
        refine (cC.out _).mono ?_
        rintro e W5 ⟨rfl, E5⟩
        have A5 := A4.ext E5 A4.lt
        have F5 := F4.tr E5
        replace EE := EE.tr E5
        clear E5 F4 A4 d0 d1 d2
        have d0 := A5.cell 0; have d1 := A5.cell 1; have d2 := A5.cell 2
        simp only [List.getElem?_cons_zero, List.getElem?_cons_succ] at d0 d1 d2
        go_wp2
        go_ret
        exact ⟨rfl, F5⟩
      | true =>
        cases tf with
        | false =>
          obtain rfl : r = 7 := HR.out.symm
          go_wp2_with fail
          refine (gold_word _).mono ?_
          rintro e W4 ⟨rfl, E4⟩
          have A4 := A3.ext E4 A3.lt
          have F4 := F3.tr E4
          have EE := E4
          clear E4 F3 A3 d0 d1 d2
          have d0 := A4.cell 0; have d1 := A4.cell 1; have d2 := A4.cell 2
          simp only [List.getElem?_cons_zero, List.getElem?_cons_succ] at d0 d1 d2
          go_wp2_with fail
          refine (cC.out _).mono ?_
          rintro e W5 ⟨rfl, E5⟩
          have A5 := A4.ext E5 A4.lt
          have F5 := F4.tr E5
          replace EE := EE.tr E5
          clear E5 F4 A4 d0 d1 d2
          have d0 := A5.cell 0; have d1 := A5.cell 1; have d2 := A5.cell 2
          simp only [List.getElem?_cons_zero, List.getElem?_cons_succ] at d0 d1 d2
          go_wp2_with fail
          refine (cF.out _).mono ?_
          rintro e W6 ⟨rfl, E6⟩
          go_wp2
          go_ret
          exact ⟨rfl, F5.tr E6⟩
        | true =>
          obtain rfl : r = 0 := HR.out.symm
          go_wp2_with fail
          refine (gold_word _).mono ?_
          rintro e W4 ⟨rfl, E4⟩
          have A4 := A3.ext E4 A3.lt
          have F4 := F3.tr E4
          have EE := E4
          clear E4 F3 A3 d0 d1 d2
          have d0 := A4.cell 0; have d1 := A4.cell 1; have d2 := A4.cell 2
          simp only [List.getElem?_cons_zero, List.getElem?_cons_succ] at d0 d1 d2
          go_wp2_with fail
          refine (cC.out _).mono ?_
          rintro e W5 ⟨rfl, E5⟩
          have A5 := A4.ext E5 A4.lt
          have F5 := F4.tr E5
          replace EE := EE.tr E5
          clear E5 F4 A4 d0 d1 d2
          have d0 := A5.cell 0; have d1 := A5.cell 1; have d2 := A5.cell 2
          simp only [List.getElem?_cons_zero, List.getElem?_cons_succ] at d0 d1 d2
          go_wp2_with fail
          refine (cF.out _).mono ?_
          rintro e W6 ⟨rfl, E6⟩
          have A6 := A5.ext E6 A5.lt
          have F6 := F5.tr E6
          have hx : Ext W3 W6 := EE.tr E6
          have hm6 := HM3.out W6 hx
          have hu := run_seenPut w.heap.size 0 W6 hm6
          obtain ⟨V, hV, -, -, hE⟩ := map_turn (o' := .map (clsMap (.int .i64 0)) 1) hm6
          rw [hV] at hu
          have F7 := hE w F6 (Nat.le_refl _)
          clear hV hE hm6 hx E6 F5 A5 d0 d1 d2
          have d0 := A6.cell 0
          simp only [List.getElem?_cons_zero] at d0
          go_wp2_with fail
          go_roundw
          case rel => exact .inr ⟨rfl, F7, trivial⟩
          case measure => simp [intOf]
    · go_wp2
      go_ret
      exact ⟨rfl, E⟩
/-- The class's cells. -/
def clsV (cap fill : Int) : Value := .agg #[.string ⟨#[103, 111, 108, 100]⟩, .int .i64 cap, .int .i64 fill]
/-- Rates of one class. -/
structure RtAt (w : World) (B p m1 m2 : Nat) (cap fill : Int) (o : Option (Nat × Nat × Nat × Nat)) : Prop where
  box : Arr w p 57 [.map (some m1), .map (some m2), .int .i64 0]
  cls : w.heap[m1]? = some (.map (clsMap (clsV cap fill)) 1)
  bks : w.heap[m2]? = some (.map (bkMap o) (bkClock o))
  pB : B ≤ p
  m1B : B ≤ m1
  m2B : B ≤ m2
theorem RtAt.ext {w w' : World} {B p m1 m2 : Nat} {cap fill : Int} {o : Option (Nat × Nat × Nat × Nat)} (h : RtAt w B p m1 m2 cap fill o) (e : Ext w w') : RtAt w' B p m1 m2 cap fill o :=
  ⟨h.box.ext e h.box.lt, (e.block _ (Array.getElem?_eq_some_iff.1 h.cls).1).trans h.cls, (e.block _ (Array.getElem?_eq_some_iff.1 h.bks).1).trans h.bks, h.pB, h.m1B, h.m2B⟩
theorem RtAt.ne {w : World} {B p m1 m2 : Nat} {cap fill : Int} {o : Option (Nat × Nat × Nat × Nat)} (h : RtAt w B p m1 m2 cap fill o) : p ≠ m1 ∧ p ≠ m2 := by
  have hb := h.box
  unfold Arr at hb
  constructor
  · rintro rfl
    rw [h.cls] at hb
    cases hb
  · rintro rfl
    rw [h.bks] at hb
    cases hb
theorem run_clsNil (m : Nat) (W : World) : (binOp .eql 54 (.map (some m)) (.map none)).run Try.prog W = .ok (.bool false) W := by kernel_rfl
set_option maxRecDepth 100000 in
set_option maxHeartbeats 1000000 in
theorem begin_any (p : Nat) (m1 : Nat) (x y : Value) (w : World) (hA : Arr w p 57 [.map (some m1), x, y]) :
    Calls Try.prog 31 #[.pointer (some ⟨p, 0, none⟩), .int .i64 0] w fun e w' => ∃ m2, e = .returned (.tuple #[]) ∧ Arr w' p 57 [.map (some m1), .map (some m2), .int .i64 0] ∧ w'.heap[m2]? = some (.map #[] 0) ∧ w.heap.size ≤ m2 ∧ OneT p w w' := by
  have hmm := @run_makeMap Try.prog
  have cT := Kp.mk (timed_any 0 w)
  rw [show timedB 0 = true by decide] at cT
  have c0 := hA.cell 0
  simp only [List.getElem?_cons_zero] at c0
  have hnil := run_clsNil m1 w
  go_enter Try.func31, Try.ntmps31
  go_wp2_with fail
  refine cT.out.mono ?_
  rintro e w1 ⟨rfl, E1⟩
  have A1 := hA.ext E1 hA.lt
  obtain ⟨W, hW, E2, hm⟩ : ∃ W, w1.alloc (.map #[] 0) = W ∧ Ext w1 W ∧ W.heap[w1.heap.size]? = some (.map #[] 0) := ⟨_, rfl, (Ext.rfl' w1).al _, (MapKept.heap_alloc w1 _).1⟩
  have A2 := A1.ext E2 A1.lt
  have T2 : OneT p w W := (OneT.of E1).ext E2
  have hs1 := E1.size
  have hpw := A1.lt
  have hmw := hmm 55 w1
  rw [hW] at hmw
  have g1 := (A2.cell 1); have g2 := A2.cell 2; have f1 := A2.frozen 1; have f2 := A2.frozen 2
  simp only [List.getElem?_cons_zero, List.getElem?_cons_succ] at g1 g2
  clear hmm c0 hA cT E1 A1 hW E2
  go_wp2
  go_end0
  refine ⟨w1.heap.size, rfl, (A2.set 1 _).set 2 _, ?_, hs1, (T2.st 1 _).st 2 _⟩
  have hne : w1.heap.size ≠ p := by omega
  exact (heap_setCell_other _ ⟨p, 2, none⟩ _ _ hne).trans ((heap_setCell_other _ ⟨p, 1, none⟩ _ _ hne).trans hm)
/-- A map is written. -/
theorem wpl_mapPut {ty : TypeId} {w w' : World} {ops : Array Oper} {rest : List Oper} {o : Oper} {a : Act} {Q : Exit → Act → World → Prop} {mv xv vv : Value} (hgd : o.guard = none) (m x v : Operand) (hop : o.op = Op.mapUpdate ty m x v) (hm : a.eval m = mv) (hx : a.eval x = xv) (hv : a.eval v = vv)
    (hr : (Instr.mapUpdate ty mv xv vv).run Try.prog w = .ok () w') (h : wpList Try.prog ops Q rest (a.put o.dst undef) w') : wpList Try.prog ops Q (o :: rest) a w := by
  refine wpList_plain hgd fun K' hK' => ?_
  unfold Oper.wp
  simp [execOp, hop, hm, hx, hv, hr, Result.andThen]
  exact hK' _ _ h
theorem new_bad (g c : Nat) (cap fill : Int) (w : World) (c0 : w.cell? ⟨g, 0, none⟩ = some (.string ⟨#[103, 111, 108, 100]⟩)) (c1 : w.cell? ⟨g, 1, none⟩ = some (.int .i64 cap)) (c2 : w.cell? ⟨g, 2, none⟩ = some (.int .i64 fill)) (hg : g < w.heap.size) (hb : (timedB cap && timedB fill) = false) :
    Calls Try.prog 16 #[.slice (some ⟨g, 0, none⟩) 1 c, .int .i64 0] w fun e w' => e = .returned (.tuple #[.pointer none, .int .i64 7]) ∧ Ext w w' := by
  have cC := Kp.mk (check_any g c cap fill w c0 c1 c2 hg)
  rw [if_neg (by rw [hb]; decide)] at cC
  clear hb c0 c1 c2
  go_enter Try.func16, Try.ntmps16
  go_wp2_with fail
  refine cC.out.mono ?_
  rintro e w1 ⟨rfl, E1⟩
  go_wp2
  go_ret2
  exact ⟨rfl, E1⟩
set_option maxRecDepth 100000 in
set_option maxHeartbeats 1000000 in
theorem new_ok (g c : Nat) (cap fill : Int) (w : World) (c0 : w.cell? ⟨g, 0, none⟩ = some (.string ⟨#[103, 111, 108, 100]⟩)) (c1 : w.cell? ⟨g, 1, none⟩ = some (.int .i64 cap)) (c2 : w.cell? ⟨g, 2, none⟩ = some (.int .i64 fill)) (hg : g < w.heap.size) (hb : (timedB cap && timedB fill) = true) :
    Calls Try.prog 16 #[.slice (some ⟨g, 0, none⟩) 1 c, .int .i64 0] w fun e w' => ∃ p m1 m2, e = .returned (.tuple #[.pointer (some ⟨p, 0, none⟩), .int .i64 0]) ∧ RtAt w' w.heap.size p m1 m2 cap fill none ∧ Ext w w' := by
  have cC := Kp.mk (check_any g c cap fill w c0 c1 c2 hg)
  rw [if_pos hb] at cC
  have cT := Kp.mk (fun W => timed_any 0 W)
  rw [show timedB 0 = true by decide] at cT
  have hcl := Kp.mk (And.intro c0 (And.intro c1 c2))
  clear hb c0 c1 c2
  go_enter Try.func16, Try.ntmps16
  go_wp2_with fail
  refine cC.out.mono ?_
  rintro e w1 ⟨rfl, E1⟩
  go_wp2_with fail
  refine (cT.out _).mono ?_
  rintro e w2 ⟨rfl, E2⟩
  have F2 := E1.tr E2
  have hmm := @run_makeMap Try.prog
  have hs2 := F2.size
  obtain ⟨W, hW, E3, hm⟩ : ∃ W, w2.alloc (.map #[] 0) = W ∧ Ext w2 W ∧ W.heap[w2.heap.size]? = some (.map #[] 0) := ⟨_, rfl, (Ext.rfl' w2).al _, (MapKept.heap_alloc w2 _).1⟩
  obtain ⟨m1, hm1⟩ : ∃ m, w2.heap.size = m := ⟨_, rfl⟩
  obtain ⟨p, hp⟩ : ∃ p, m1 + 1 = p := ⟨_, rfl⟩
  have hz : W.heap.size = p := by rw [← hW, World.size_alloc, hm1, hp]
  obtain ⟨V, hV, E4, A4⟩ : ∃ V, W.alloc (.cells #[.map (some m1), .map none, .int .i64 0] 57) = V ∧ Ext W V ∧ Arr V W.heap.size 57 [.map (some m1), .map none, .int .i64 0] := ⟨_, rfl, (Ext.rfl' W).al _, Arr.new W _ [.map (some m1), .map none, .int .i64 0]⟩
  have hm4 := (E4.block _ (Array.getElem?_eq_some_iff.1 hm).1).trans hm
  have F4 := (F2.tr E3).tr E4
  rw [hz] at A4
  rw [hm1] at hm4 hs2
  clear cC cT E1 E2 E3 hm
  go_upto_region 8 with fail
  clear hV hW hz hmm hm1
  have hgV : g < V.heap.size := by have := F4.size; omega
  go_loopw [23] (fun i wr => (i = .int .i64 0 ∧ wr = V) ∨ (i = .int .i64 1 ∧ Ext w wr ∧ Arr wr p 57 [.map (some m1), .map none, .int .i64 0] ∧ wr.heap[m1]? = some (.map (clsMap (clsV cap fill)) 1))) (fun i _ => 1 - (intOf i).toNat)
  case atStart => exact .inl ⟨rfl, rfl⟩
  case round =>
    rcases hrel with ⟨rfl, rfl⟩ | ⟨rfl, E, A, hmc⟩
    · obtain ⟨c0, c1, c2⟩ := hcl.out
      replace c0 := ((bcell F4).1 g 0 hg).trans c0
      replace c1 := ((bcell F4).1 g 1 hg).trans c1
      replace c2 := ((bcell F4).1 g 2 hg).trans c2
      go_upto_region 10 with fail
      obtain ⟨W6, hW6, E6, A6⟩ : ∃ W, wr.alloc (.cells #[.string ⟨#[103, 111, 108, 100]⟩, .int .i64 cap, .int .i64 fill] 23) = W ∧ Ext wr W ∧ Arr W wr.heap.size 23 [.string ⟨#[103, 111, 108, 100]⟩, .int .i64 cap, .int .i64 fill] := ⟨_, rfl, (Ext.rfl' wr).al _, Arr.new wr _ [.string ⟨#[103, 111, 108, 100]⟩, .int .i64 cap, .int .i64 fill]⟩
      rw [hW6]
      have B6 := A4.ext E6 A4.lt
      have hm6 := (E6.block _ (Array.getElem?_eq_some_iff.1 hm4).1).trans hm4
      have F6 := F4.tr E6
      clear c0 c1 c2 hW6 A4 hm4 E6 F4
      refine wp_region_tailsE (fun i v W => match i with
        | 0 => v = .pointer (some ⟨p, 0, none⟩)
        | 1 => v = .pointer (some ⟨p, 0, none⟩)
        | 2 => v = .pointer (some ⟨p, 0, none⟩)
        | 3 => v = .map (some m1)
        | 4 => v = .pointer (some ⟨wr.heap.size, 0, none⟩)
        | 5 => v = .string ⟨#[103, 111, 108, 100]⟩
        | 6 => v = .agg #[.string ⟨#[103, 111, 108, 100]⟩, .int .i64 cap, .int .i64 fill]
        | _ => True) 7 (by kernel_rfl) (by kernel_rfl) (by kernel_rfl) (by decide) (by kernel_rfl) (by kernel_rfl) (by kernel_rfl) (by kernel_rfl) ?_ ?_ ?_
      · intro i v W1 W2 e1 e2 h
        match i, h with
        | 0, h => exact h
        | 1, h => exact h
        | 2, h => exact h
        | 3, h => exact h
        | 4, h => exact h
        | 5, h => exact h
        | 6, h => exact h
        | (i + 7), h => exact h
      · intro HF
        refine localsR_cons (fun u W hW hd => ?_) ?_
        · refine opLeaves_ev HF rfl fun ev zc zg zf zt => ?_
          have t7 : ev (.tmp 7) = .pointer (some ⟨p, 0, none⟩) := zt 7
          clear zt
          exact ev_val (v := .pointer (some ⟨p, 0, none⟩)) (by go_simp) rfl
        refine localsR_cons (fun u W hW hd => ?_) ?_
        · refine opLeaves_ev HF rfl fun ev zc zg zf zt => ?_
          have t27 : ev (.tmp 27) = u 0 := zt 27
          clear zt
          have h0 : u 0 = _ := hd 0 (by kernel_rfl)
          exact ev_val (v := .pointer (some ⟨p, 0, none⟩)) (by go_simp) rfl
        refine localsR_cons (fun u W hW hd => ?_) ?_
        · refine opLeaves_ev HF rfl fun ev zc zg zf zt => ?_
          have t28 : ev (.tmp 28) = u 1 := zt 28
          clear zt
          have h1 : u 1 = _ := hd 1 (by kernel_rfl)
          exact ev_val (v := .pointer (some ⟨p, 0, none⟩)) (by go_simp) rfl
        refine localsR_cons (fun u W hW hd => ?_) ?_
        · refine opLeaves_ev HF rfl fun ev zc zg zf zt => ?_
          have t29 : ev (.tmp 29) = u 2 := zt 29
          clear zt
          have h2 : u 2 = _ := hd 2 (by kernel_rfl)
          have c0 := (B6.ext hW B6.lt).cell 0
          simp only [List.getElem?_cons_zero] at c0
          exact ev_val (v := .map (some m1)) (by go_simp) rfl
        refine localsR_cons (fun u W hW hd => ?_) ?_
        · refine opLeaves_ev HF rfl fun ev zc zg zf zt => ?_
          have t9 : ev (.tmp 9) = .pointer (some ⟨wr.heap.size, 0, none⟩) := zt 9
          clear zt
          exact ev_val (v := .pointer (some ⟨wr.heap.size, 0, none⟩)) (by go_simp) rfl
        refine localsR_cons (fun u W hW hd => ?_) ?_
        · refine opLeaves_ev HF rfl fun ev zc zg zf zt => ?_
          have t31 : ev (.tmp 31) = u 4 := zt 31
          clear zt
          have h4 : u 4 = _ := hd 4 (by kernel_rfl)
          have d0 := (A6.ext hW A6.lt).cell 0
          simp only [List.getElem?_cons_zero] at d0
          exact ev_val (v := .string ⟨#[103, 111, 108, 100]⟩) (by go_simp) rfl
        refine localsR_cons (fun u W hW hd => ?_) localsR_nil
        · refine opLeaves_ev HF rfl fun ev zc zg zf zt => ?_
          have t9 : ev (.tmp 9) = .pointer (some ⟨wr.heap.size, 0, none⟩) := zt 9
          clear zt
          have d0 := (A6.ext hW A6.lt).cell 0; have d1 := (A6.ext hW A6.lt).cell 1; have d2 := (A6.ext hW A6.lt).cell 2
          simp only [List.getElem?_cons_zero, List.getElem?_cons_succ] at d0 d1 d2
          exact ev_val (v := .agg #[.string ⟨#[103, 111, 108, 100]⟩, .int .i64 cap, .int .i64 fill]) (by go_simp) rfl
      · intro u7 W7 hW7 hV
        have h3 : u7 3 = _ := hV 3 (by decide)
        have h5 : u7 5 = _ := hV 5 (by decide)
        have h6 : u7 6 = _ := hV 6 (by decide)
        have hm7 := (hW7.block _ (Array.getElem?_eq_some_iff.1 hm6).1).trans hm6
        have B7 := B6.ext hW7 B6.lt
        have F7 := F6.tr hW7
        have hr := run_clsPut m1 (clsV cap fill) W7 hm7
        obtain ⟨V8, hV8, hm8, ho8, hE8⟩ := map_turn (o' := .map (clsMap (clsV cap fill)) 1) hm7
        rw [hV8] at hr
        have F8 := hE8 w F7 hs2
        have B8 : Arr V8 p 57 [.map (some m1), .map none, .int .i64 0] := (ho8 p (by omega)).trans B7
        clear hV hW7 hm6 B6 F6 hm7 B7 F7 hV8 ho8 hE8 A6
        refine wpl_mapPut rfl _ _ _ rfl (by go_simp) (by go_simp) (by go_simp; rfl) hr ?_
        clear hr h3 h5 h6
        go_simp
        go_wp2
        go_roundw
        case rel => exact .inr ⟨rfl, F8, B8, hm8⟩
        case measure => simp [intOf]
    · go_wp2_with fail
      refine (begin_any p m1 _ _ wr A).mono ?_
      rintro e w9 ⟨m2, rfl, A9, hm9, hm2, T9⟩
      have hlp := A.lt
      have F9 := T9.toExt E (by omega)
      have hmc9 := (T9.block _ (Array.getElem?_eq_some_iff.1 hmc).1 (by omega)).trans hmc
      have hsz := E.size
      go_wp2
      go_ret2
      exact ⟨_, _, _, rfl, ⟨A9, hmc9, hm9, by omega, hs2, by omega⟩, F9⟩
end Go.Proofs.Ytmnpbpfeoackiaa
