/-
  Package field's reader: Text, Byte and End do what the named plain functions say. Condition: what is left is at most 1000000 bytes.
-/
import Derived.Test.YtmnpbpfeoackiaaDoorFld2
namespace Go.Proofs.YtmnpbpfeoackiaaDoor
open Go.RowKit

theorem Only.cell {g b : Nat} {v : Value} {w w' : World} (hO : Only g w w') (h : w.cell? ⟨b, 0, none⟩ = some v) (hb : b ≠ g) : w'.cell? ⟨b, 0, none⟩ = some v :=
  (World.cell?_of_block (w := w) (a := ⟨b, 0, none⟩) (hO.block b (World.block_lt_of_cell? _ _ h) (by simpa using hb))).trans h
theorem Only.frozen {g b : Nat} {v : Value} {w w' : World} (hO : Only g w w') (h : w.cell? ⟨b, 0, none⟩ = some v) (hb : b ≠ g) (hf : w.frozen? ⟨b, 0, none⟩ = false) : w'.frozen? ⟨b, 0, none⟩ = false :=
  (World.frozen?_of_block (w := w) (a := ⟨b, 0, none⟩) (hO.block b (World.block_lt_of_cell? _ _ h) (by simpa using hb))).trans hf

theorem cell_set_far {w : World} {a b i j : Nat} {v : Option Value} (h : w.cell? ⟨a, i, none⟩ = v) (hne : a ≠ b) (u : Value) : (w.setCell ⟨b, j, none⟩ u).cell? ⟨a, i, none⟩ = v :=
  (World.cell?_of_block (w := w) (a := ⟨a, i, none⟩) (Below.heap_setCell w ⟨b, j, none⟩ u a hne)).trans h

set_option maxRecDepth 100000 in
set_option maxHeartbeats 1000000 in
theorem text1_ok (g b0 b1 b2 : Nat) (s : List UInt8) (m : Int) (M n k : Nat) (v0 : Value) (w : World) (h : Rdr w g true s 0) (hs : s.length ≤ 1000000) (e1 : max m 0 = (M : Int)) (hm : M ≤ 9223372036854775807) (hv : vtake s = (n, k, 0)) (hn : n ≤ M) (hl : n ≤ (s.drop k).length)
    (p0 : w.cell? ⟨b0, 0, none⟩ = some (.pointer (some ⟨g, 0, none⟩))) (p1 : w.cell? ⟨b1, 0, none⟩ = some (.int .i64 m)) (p2 : w.cell? ⟨b2, 0, none⟩ = some v0) (q2 : w.frozen? ⟨b2, 0, none⟩ = false) (hg : b2 ≠ g) (hg0 : b0 ≠ g) (hg1 : b1 ≠ g) (hb0 : b0 ≠ b2) (hb1 : b1 ≠ b2) :
    Calls Tryd.prog 89 #[.pointer (some ⟨b0, 0, none⟩), .pointer (some ⟨b1, 0, none⟩), .pointer (some ⟨b2, 0, none⟩)] w fun e w' => e = .returned (.tuple #[]) ∧ ∃ w1, Only g w w1 ∧ Rdr w1 g true ((s.drop k).drop n) 0 ∧ w' = w1.setCell ⟨b2, 0, none⟩ (.string (ofL ((s.drop k).take n))) := by
  have e2 : IntKind.u64.wrap (M : Int) = (M : Int) := U64.wrap (by show _ < _; omega)
  have e3 : IntKind.i64.wrap (n : Int) = n := IntWalk.i64_in _ (by omega)
  have hd : (s.drop k).length ≤ 1000000 := by simp; omega
  clear hm
  go_enter Tryd.func89, Tryd.ntmps89
  go_region_held3 (fun w' => w'.cell? ⟨b0, 0, none⟩ = some (.pointer (some ⟨g, 0, none⟩)) ∧ w'.cell? ⟨b1, 0, none⟩ = some (.int .i64 m)) (first | exact ⟨p0, p1⟩ | exact ⟨k0, k1⟩ | exact ⟨j0, j1⟩ | exact ⟨cell_set_far j0 hb0 _, cell_set_far j1 hb1 _⟩) (first
    | (go_at_call 91; refine (number_ok g s M n k _ (by exact h) hs hv hn).mono ?_; rintro e w1 ⟨rfl, hR, hO⟩; have k0 := hO.cell p0 hg0; have k1 := hO.cell p1 hg1; have k2 := hO.cell p2 hg; have k3 := hO.frozen p2 hg q2)
    | (go_at_call 90; refine (take_any g (s.drop k) n _ (by exact hR) hl hd).mono ?_; rintro e w2 ⟨rfl, hR2, hO2⟩; have j0 := hO2.cell k0 hg0; have j1 := hO2.cell k1 hg1; have j2 := hO2.cell k2 hg; have j3 := hO2.frozen k2 hg k3))
  all_goals
    go_end0
    exact ⟨rfl, w2, (Only.of ((Ext.rfl' w).dr)).tr (hO.tr hO2), hR2, rfl⟩

theorem panic_put {P : Program} {fn : Func} {R : Ending → World → Prop} (d : Option Tmp) (v : Value) (c : List PanicEntry) (a : Act) (w : World) (h : bodyPost P fn R (.panic c) (a.put d v) w) : bodyPost P fn R (.panic c) a w := by
  cases d <;> exact h

theorem wpOp_enter {P : Program} {ops : Array Oper} {Q : Exit → Act → World → Prop} {i : Nat} {K : Act → World → Prop} {a : Act} {w : World} {o : Oper} {f : FuncId} {args : Array Value} (hi : ops[i]? = some o) (hw : Region.wanted o (yielded ops a.tmps) = true)
    (hr : (execOp a.eval o).run P w = .ok (.enter f args) w) (h : Calls P f args w fun e w'' => match e with
      | .returned v => K (a.put o.dst v) w''
      | .panicked c => Q (.panic c) a w''
      | .outgrown => False) : wpOp P ops Q i K a w := by
  unfold wpOp
  simp only [hi, hw, if_true]
  left
  unfold Oper.wp
  rw [hr, Oper.upon_enter]
  refine h.mono fun e w'' he => ?_
  cases e with
  | returned v => exact he
  | panicked c => exact he
  | outgrown => exact he.elim

set_option maxRecDepth 100000 in
set_option maxHeartbeats 1000000 in
theorem text1_end (g b0 b1 b2 : Nat) (s : List UInt8) (m : Int) (M n k : Nat) (w : World) (h : Rdr w g true s 0) (hs : s.length ≤ 1000000) (e1 : max m 0 = (M : Int)) (hm : M ≤ 9223372036854775807) (hv : vtake s = (n, k, 0)) (hn : n ≤ M) (hl : (s.drop k).length < n)
    (p0 : w.cell? ⟨b0, 0, none⟩ = some (.pointer (some ⟨g, 0, none⟩))) (p1 : w.cell? ⟨b1, 0, none⟩ = some (.int .i64 m)) (hg0 : b0 ≠ g) (hg1 : b1 ≠ g) :
    Calls Tryd.prog 89 #[.pointer (some ⟨b0, 0, none⟩), .pointer (some ⟨b1, 0, none⟩), .pointer (some ⟨b2, 0, none⟩)] w fun e w' => e = .panicked [{ v := .iface 173 (.agg #[.int .i64 1]), recovered := false }] ∧ (∃ s', Rdr w' g true s' 0) ∧ Only g w w' := by
  have e2 : IntKind.u64.wrap (M : Int) = (M : Int) := U64.wrap (by show _ < _; omega)
  have e3 : IntKind.i64.wrap (n : Int) = n := IntWalk.i64_in _ (by omega)
  have hd : (s.drop k).length ≤ 1000000 := by simp; omega
  clear hm
  go_enter Tryd.func89, Tryd.ntmps89
  refine wp_region_held (S := fun w' => w'.cell? ⟨b0, 0, none⟩ = some (.pointer (some ⟨g, 0, none⟩)) ∧ w'.cell? ⟨b1, 0, none⟩ = some (.int .i64 m)) (by kernel_rfl) ?_
  refine wpAnyH_take (i := 0) (v := .pointer (some ⟨g, 0, none⟩)) rfl (by kernel_rfl) (by kernel_rfl) (by kernel_rfl) (panic_put _ _) (.inl ⟨by kernel_rfl, fun W hS => ?_⟩) ⟨p0, p1⟩ ?_
  · obtain ⟨s0, s1⟩ := hS
    go_simp
  refine wpAnyH_take (i := 1) (v := .pointer (some ⟨g, 0, none⟩)) rfl (by kernel_rfl) (by kernel_rfl) (by kernel_rfl) (panic_put _ _) (.inl ⟨by kernel_rfl, fun W hS => ?_⟩) ⟨p0, p1⟩ ?_
  · obtain ⟨s0, s1⟩ := hS
    go_simp
  refine wpAnyH_take (i := 2) (v := .int .i64 m) rfl (by kernel_rfl) (by kernel_rfl) (by kernel_rfl) (panic_put _ _) (.inl ⟨by kernel_rfl, fun W hS => ?_⟩) ⟨p0, p1⟩ ?_
  · obtain ⟨s0, s1⟩ := hS
    go_simp
  refine wpAnyH_take (i := 3) (v := .int .i64 (M : Int)) rfl (by kernel_rfl) (by kernel_rfl) (by kernel_rfl) (panic_put _ _) (.inl ⟨by kernel_rfl, fun W hS => ?_⟩) ⟨p0, p1⟩ ?_
  · go_simp
  refine wpAnyH_take (i := 4) (v := .int .u64 (M : Int)) rfl (by kernel_rfl) (by kernel_rfl) (by kernel_rfl) (panic_put _ _) (.inl ⟨by kernel_rfl, fun W hS => ?_⟩) ⟨p0, p1⟩ ?_
  · go_simp
  refine wpAnyH_all (rs := [5]) (by kernel_rfl) (by simp) (fun i hi => ?_)
  obtain rfl : i = 5 := by simpa using hi
  refine wpOp_enter rfl (by kernel_rfl) (f := 91) (args := #[.pointer (some ⟨g, 0, none⟩), .int .u64 (M : Int)]) (by go_simp) ?_
  refine (number_ok g s M n k _ (by exact h) hs hv hn).mono ?_
  rintro e w1 ⟨rfl, hR, hO⟩
  refine ⟨⟨hO.cell p0 hg0, hO.cell p1 hg1⟩, ?_⟩
  refine wpAnyH_take (i := 6) (v := .int .i64 (n : Int)) rfl (by kernel_rfl) (by kernel_rfl) (by kernel_rfl) (panic_put _ _) (.inl ⟨by kernel_rfl, fun W hS => ?_⟩) ⟨hO.cell p0 hg0, hO.cell p1 hg1⟩ ?_
  · go_simp
  refine wpAnyH_all (rs := [7]) (by kernel_rfl) (by simp) (fun i hi => ?_)
  obtain rfl : i = 7 := by simpa using hi
  refine wpOp_enter rfl (by kernel_rfl) (f := 90) (args := #[.pointer (some ⟨g, 0, none⟩), .int .i64 (n : Int)]) (by go_simp) ?_
  refine (take_end g (s.drop k) n _ hR hl hd).mono ?_
  rintro e w2 ⟨rfl, rfl⟩
  exact ⟨rfl, rfl, ⟨_, hR⟩, ((Only.of ((Ext.rfl' w).dr)).tr hO)⟩

set_option maxRecDepth 100000 in
set_option maxHeartbeats 1000000 in
theorem text1_bad (g b0 b1 b2 : Nat) (s : List UInt8) (m : Int) (M : Nat) (w : World) (h : Rdr w g true s 0) (hs : s.length ≤ 1000000) (e1 : max m 0 = (M : Int)) (hm : M ≤ 9223372036854775807) (hv : (vtake s).2.2 ≠ 0 ∨ M < (vtake s).1)
    (p0 : w.cell? ⟨b0, 0, none⟩ = some (.pointer (some ⟨g, 0, none⟩))) (p1 : w.cell? ⟨b1, 0, none⟩ = some (.int .i64 m)) :
    Calls Tryd.prog 89 #[.pointer (some ⟨b0, 0, none⟩), .pointer (some ⟨b1, 0, none⟩), .pointer (some ⟨b2, 0, none⟩)] w fun e w' => e = .panicked [{ v := .iface 173 (.agg #[.int .i64 (numErr s M)]), recovered := false }] ∧ (∃ s', Rdr w' g true s' 0) ∧ Only g w w' := by
  have e2 : IntKind.u64.wrap (M : Int) = (M : Int) := U64.wrap (by show _ < _; omega)
  clear hm
  go_enter Tryd.func89, Tryd.ntmps89
  refine wp_region_held (S := fun w' => w'.cell? ⟨b0, 0, none⟩ = some (.pointer (some ⟨g, 0, none⟩)) ∧ w'.cell? ⟨b1, 0, none⟩ = some (.int .i64 m)) (by kernel_rfl) ?_
  refine wpAnyH_take (i := 0) (v := .pointer (some ⟨g, 0, none⟩)) rfl (by kernel_rfl) (by kernel_rfl) (by kernel_rfl) (panic_put _ _) (.inl ⟨by kernel_rfl, fun W hS => ?_⟩) ⟨p0, p1⟩ ?_
  · obtain ⟨s0, s1⟩ := hS
    go_simp
  refine wpAnyH_take (i := 1) (v := .pointer (some ⟨g, 0, none⟩)) rfl (by kernel_rfl) (by kernel_rfl) (by kernel_rfl) (panic_put _ _) (.inl ⟨by kernel_rfl, fun W hS => ?_⟩) ⟨p0, p1⟩ ?_
  · obtain ⟨s0, s1⟩ := hS
    go_simp
  refine wpAnyH_take (i := 2) (v := .int .i64 m) rfl (by kernel_rfl) (by kernel_rfl) (by kernel_rfl) (panic_put _ _) (.inl ⟨by kernel_rfl, fun W hS => ?_⟩) ⟨p0, p1⟩ ?_
  · obtain ⟨s0, s1⟩ := hS
    go_simp
  refine wpAnyH_take (i := 3) (v := .int .i64 (M : Int)) rfl (by kernel_rfl) (by kernel_rfl) (by kernel_rfl) (panic_put _ _) (.inl ⟨by kernel_rfl, fun W hS => ?_⟩) ⟨p0, p1⟩ ?_
  · go_simp
  refine wpAnyH_take (i := 4) (v := .int .u64 (M : Int)) rfl (by kernel_rfl) (by kernel_rfl) (by kernel_rfl) (panic_put _ _) (.inl ⟨by kernel_rfl, fun W hS => ?_⟩) ⟨p0, p1⟩ ?_
  · go_simp
  refine wpAnyH_all (rs := [5]) (by kernel_rfl) (by simp) (fun i hi => ?_)
  obtain rfl : i = 5 := by simpa using hi
  refine wpOp_enter rfl (by kernel_rfl) (f := 91) (args := #[.pointer (some ⟨g, 0, none⟩), .int .u64 (M : Int)]) (by go_simp) ?_
  refine (number_bad g s M _ (by exact h) hs hv).mono ?_
  rintro e w1 ⟨rfl, hR, hO⟩
  exact ⟨rfl, rfl, ⟨_, hR⟩, ((Only.of ((Ext.rfl' w).dr)).tr hO)⟩
end Go.Proofs.YtmnpbpfeoackiaaDoor
