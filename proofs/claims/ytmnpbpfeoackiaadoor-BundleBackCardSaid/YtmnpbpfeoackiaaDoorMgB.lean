/-
  Package field's reader: what each method does to the reader's block. Condition: what is left is at most 1000000 bytes. · Package field's reader: Num, Text, Byte and End do what the named plain functions say. Condition: what is left is at most 1000000 bytes. · Package field's reader: Text, Byte and End do what the named plain functions say. Condition: what is left is at most 1000000 bytes. · Package field's reader: Text, Byte, End and Fail do what the named plain functions say. Condition: what is left is at most 1000000 bytes.
-/
import Derived.Test.YtmnpbpfeoackiaaDoorVar
import Derived.Test.YtmnpbpfeoackiaaDoorFldPlain
import Derived.Test.YtmnpbpfeoackiaaDoorOnly
import Derived.Recover
namespace Go.Proofs.YtmnpbpfeoackiaaDoor
open Go.RowKit

/-- The reader in block g: made or not, what is left, what was wrong. -/
def Rdr (w : World) (g : Nat) (m : Bool) (s : List UInt8) (e : Int) : Prop := w.heap[g]? = some (.cells #[.bool m, .string (ofL s), .int .i64 e] 139 (0, 0))

theorem Rdr.cells {w : World} {g : Nat} {m : Bool} {s : List UInt8} {e : Int} (h : Rdr w g m s e) :
    w.cell? ⟨g, 0, none⟩ = some (.bool m) ∧ w.cell? ⟨g, 1, none⟩ = some (.string (ofL s)) ∧ w.cell? ⟨g, 2, none⟩ = some (.int .i64 e) ∧
    w.frozen? ⟨g, 0, none⟩ = false ∧ w.frozen? ⟨g, 1, none⟩ = false ∧ w.frozen? ⟨g, 2, none⟩ = false := by
  have hc := fun i => cell_of_row w g i _ _ _ h
  have hf := fun i => frozen_of_row w g i _ _ h
  exact ⟨hc 0, hc 1, hc 2, hf 0, hf 1, hf 2⟩
theorem Rdr.lt {w : World} {g : Nat} {m : Bool} {s : List UInt8} {e : Int} (h : Rdr w g m s e) : g < w.heap.size := (Array.getElem?_eq_some_iff.1 h).1
theorem Rdr.ext {w w' : World} {g : Nat} {m : Bool} {s : List UInt8} {e : Int} (h : Rdr w g m s e) (hE : Ext w w') : Rdr w' g m s e := (hE.block g h.lt).trans h

theorem Rdr.stNew {w : World} {g : Nat} {m : Bool} {s : List UInt8} {e : Int} (h : Rdr w g m s e) {p : Addr} (hp : g ≠ p.block) (u : Value) : Rdr (w.setCell p u) g m s e := (Below.heap_setCell w p u g hp).trans h
set_option maxHeartbeats 400000 in
theorem new_any (a : ByteArray) (w : World) :
    Calls Tryd.prog 51 #[.string a] w fun e w' => e = .returned (.pointer (some ⟨w.heap.size, 0, none⟩)) ∧ Rdr w' w.heap.size true (toL a) 0 ∧ Ext w w' := by
  go_enter Tryd.func51, Tryd.ntmps51
  go_wp2
  go_ret
  exact ⟨rfl, by unfold Rdr; rw [ofL_toL]; exact heap_alloc_new w _, (Ext.rfl' _).al _⟩

set_option maxHeartbeats 400000 in
theorem left_any (g : Nat) (m : Bool) (s : List UInt8) (e : Int) (w : World) (h : Rdr w g m s e) :
    Calls Tryd.prog 56 #[.pointer (some ⟨g, 0, none⟩)] w fun e w' => e = .returned (.int .i64 s.length) ∧ w' = w := by
  obtain ⟨c0, c1, c2, f0, f1, f2⟩ := h.cells
  go_enter Tryd.func56, Tryd.ntmps56
  go_wp2
  go_ret
  exact ⟨rfl, rfl⟩

set_option maxHeartbeats 400000 in
theorem err_any (g : Nat) (s : List UInt8) (er : Int) (w : World) (h : Rdr w g true s er) :
    Calls Tryd.prog 55 #[.pointer (some ⟨g, 0, none⟩)] w fun e w' => e = .returned (.int .i64 er) ∧ w' = w := by
  obtain ⟨c0, c1, c2, f0, f1, f2⟩ := h.cells
  go_enter Tryd.func55, Tryd.ntmps55
  go_wp2
  go_ret
  exact ⟨rfl, rfl⟩

set_option maxHeartbeats 400000 in
theorem fail_yes (g : Nat) (s : List UInt8) (x : Int) (w : World) (h : Rdr w g true s 0) (hx : x ≠ 0) :
    Calls Tryd.prog 57 #[.pointer (some ⟨g, 0, none⟩), .int .i64 x] w fun e w' => e = .returned (.tuple #[]) ∧ Rdr w' g true [] x ∧ Only g w w' := by
  obtain ⟨c0, c1, c2, f0, f1, f2⟩ := h.cells
  have t : (x == 0) = false := by simp [hx]
  go_enter Tryd.func57, Tryd.ntmps57
  go_wp2
  go_end0
  refine ⟨rfl, ?_, ((Only.rfl' g w).st 2 _).st 1 _⟩
  have h1 := heap_setCell_same w g 2 _ _ (.int .i64 x) h
  exact heap_setCell_same _ g 1 _ _ (.string ⟨#[]⟩) h1

set_option maxHeartbeats 400000 in
theorem fail_no (g : Nat) (s : List UInt8) (er x : Int) (w : World) (h : Rdr w g true s er) (hx : er ≠ 0 ∨ x = 0) :
    Calls Tryd.prog 57 #[.pointer (some ⟨g, 0, none⟩), .int .i64 x] w fun e w' => e = .returned (.tuple #[]) ∧ w' = w := by
  obtain ⟨c0, c1, c2, f0, f1, f2⟩ := h.cells
  by_cases h0 : er = 0
  · have hx0 : x = 0 := by
      rcases hx with hx | hx
      · exact absurd h0 hx
      · exact hx
    subst h0
    subst hx0
    clear hx
    go_enter Tryd.func57, Tryd.ntmps57
    go_wp2
    first | go_end0 | refine bodyPost_ret (results_none rfl _ _ _) rfl ?_
    exact ⟨rfl, rfl⟩
  · have t : (er != 0) = true := by simp [h0]
    clear hx
    go_enter Tryd.func57, Tryd.ntmps57
    go_wp2
    first | go_end0 | refine bodyPost_ret (results_none rfl _ _ _) rfl ?_
    exact ⟨rfl, rfl⟩

set_option maxHeartbeats 400000 in
theorem take_any (g : Nat) (s : List UInt8) (n : Nat) (w : World) (h : Rdr w g true s 0) (hn : n ≤ s.length) (hs : s.length ≤ 1000000) :
    Calls Tryd.prog 90 #[.pointer (some ⟨g, 0, none⟩), .int .i64 n] w fun e w' => e = .returned (.string (ofL (s.take n))) ∧ Rdr w' g true (s.drop n) 0 ∧ Only g w w' := by
  obtain ⟨c0, c1, c2, f0, f1, f2⟩ := h.cells
  go_enter Tryd.func90, Tryd.ntmps90
  go_wp2
  go_ret
  refine ⟨ret_str (by rw [extract_to, toL_ofL]), ?_, (Only.rfl' g w).st 1 _⟩
  have h1 := heap_setCell_same w g 1 _ _ (.string ((ofL s).extract n s.length)) h
  rw [show (ofL s).extract n s.length = ofL (s.drop n) from by rw [← size_ofL s, extract_from, toL_ofL]] at h1
  rw [show (ofL s).extract n s.length = ofL (s.drop n) from by rw [← size_ofL s, extract_from, toL_ofL]]
  exact h1

set_option maxHeartbeats 400000 in
theorem take_end (g : Nat) (s : List UInt8) (n : Nat) (w : World) (h : Rdr w g true s 0) (hn : s.length < n) (hs : s.length ≤ 1000000) :
    Calls Tryd.prog 90 #[.pointer (some ⟨g, 0, none⟩), .int .i64 n] w fun e w' => e = .panicked [{ v := .iface 173 (.agg #[.int .i64 1]), recovered := false }] ∧ w = w' := by
  obtain ⟨c0, c1, c2, f0, f1, f2⟩ := h.cells
  go_enter Tryd.func90, Tryd.ntmps90
  go_wp2
  simp [bodyPost]

theorem recover_idle (p : Addr) (w : World) :
    CallsD Tryd.prog 115 #[.pointer (some p)] .returning w fun e u' w' => e = .returned (.tuple #[]) ∧ u' = .returning ∧ w' = w := by
  refine callsD_of_wpS Tryd.func115 rfl fun c₀ cs hu => ?_
  apply wpS_seq
  apply wpS_region
  simp [wpOpsS, go_sem, recoverD, hu, Tryd.ntmps115, Exit.thenS]
  refine wpS_of_wp ?_
  have e : #[Value.pointer (some p)] ++ (Array.replicate 13 undef).setIfInBounds 3 Value.nilIface = #[.pointer (some p), undef, undef, undef, .nilIface, undef, undef, undef, undef, undef, undef, undef, undef, undef] := rfl
  rw [e]
  go_wp2
  cases c₀
  simp_all [bodyPostS, results, Tryd.results115]

set_option maxRecDepth 100000 in
set_option maxHeartbeats 1000000 in
theorem recover_some (b g : Nat) (s : List UInt8) (x : Int) (w : World) (hp : w.cell? ⟨b, 0, none⟩ = some (.pointer (some ⟨g, 0, none⟩))) (h : Rdr w g true s 0) (hx : x ≠ 0) :
    CallsD Tryd.prog 115 #[.pointer (some ⟨b, 0, none⟩)] (.panicking [{ v := .iface 173 (.agg #[.int .i64 x]), recovered := false }]) w fun e u' w' =>
      e = .returned (.tuple #[]) ∧ u' = .panicking [{ v := .iface 173 (.agg #[.int .i64 x]), recovered := true }] ∧ Rdr w' g true [] x ∧ Only g w w' := by
  refine callsD_of_wpS Tryd.func115 rfl fun c₀ cs hu => ?_
  apply wpS_seq
  apply wpS_region
  simp [wpOpsS, go_sem, recoverD, hu, Tryd.ntmps115, Exit.thenS]
  refine wpS_of_wp ?_
  have e : #[Value.pointer (some ⟨b, 0, none⟩)] ++ (Array.replicate 13 undef).setIfInBounds 3 (.iface 173 (.agg #[.int .i64 x])) = #[.pointer (some ⟨b, 0, none⟩), undef, undef, undef, .iface 173 (.agg #[.int .i64 x]), undef, undef, undef, undef, undef, undef, undef, undef, undef] := rfl
  rw [e]
  have ha : ∀ W : World, (Instr.typeAssert (.iface 173 (.agg #[.int .i64 x])) 20 173 true).run Tryd.prog W = .ok (.tuple #[.agg #[.int .i64 x], .bool true]) W := fun W => by kernel_rfl
  have hbl := World.block_lt_of_cell? _ _ hp
  have hp' : ∀ o, (w.alloc o).cell? ⟨b, 0, none⟩ = some (.pointer (some ⟨g, 0, none⟩)) := fun o => (World.cell?_alloc_lt w o ⟨b, 0, none⟩ hbl).trans hp
  have h' : ∀ o, Rdr (w.alloc o) g true s 0 := fun o => h.ext ((Ext.rfl' w).al o)
  have H' := Lib.hid h'; clear h'
  go_wp2_with fail
  refine (fail_yes g s x _ (H'.out _) hx).mono ?_
  rintro e1 w1 ⟨rfl, hR, hO⟩
  go_wp2
  have hO' : Only g w w1 := (Only.of ((Ext.rfl' w).al _)).tr hO
  simp [bodyPostS, results, Tryd.results115, hR, hO']

theorem Tryd.mkfn : ∀ (fn : Fn) (first cap : Array Value) (w : World), (Instr.makeFunc fn first cap).run Tryd.prog w = .ok (.func fn first cap) w := fun _ _ _ _ => rfl

set_option maxRecDepth 100000 in
set_option maxHeartbeats 1000000 in
theorem read_skip (g : Nat) (s : List UInt8) (er : Int) (F : FuncId) (caps : Array Value) (w : World) (h : Rdr w g true s er) (h0 : er ≠ 0) :
    Calls Tryd.prog 88 #[.pointer (some ⟨g, 0, none⟩), .func (.func F) #[] caps] w fun e w' => e = .returned (.tuple #[]) ∧ Ext w w' := by
  have hg := h.lt
  obtain ⟨c0, c1, c2, f0, f1, f2⟩ := (h.ext ((Ext.rfl' w).al (.cells #[.pointer (some ⟨g, 0, none⟩)] 84))).cells
  have t : (er != 0) = true := by simp [h0]
  have hmf := Tryd.mkfn
  go_enter_defers Tryd.func88, Tryd.ntmps88
  go_wp2
  simp [bodyPostD, Leaves, results, Tryd.results88]
  exact (Ext.rfl' w).al _

set_option maxRecDepth 100000 in
set_option maxHeartbeats 1000000 in
theorem read_ok (g : Nat) (s : List UInt8) (F : FuncId) (caps : Array Value) (w : World) (h : Rdr w g true s 0) (R : World → Prop)
    (hcf : ∀ W : World, (callFunc F caps).run Tryd.prog W = .ok (.enter F caps) W)
    (hp : ∀ W, Ext w W → Calls Tryd.prog F caps W fun e W' => e = .returned (.tuple #[]) ∧ R W') :
    Calls Tryd.prog 88 #[.pointer (some ⟨g, 0, none⟩), .func (.func F) #[] caps] w fun e w' => e = .returned (.tuple #[]) ∧ R w' := by
  have hg := h.lt
  obtain ⟨c0, c1, c2, f0, f1, f2⟩ := (h.ext ((Ext.rfl' w).al (.cells #[.pointer (some ⟨g, 0, none⟩)] 84))).cells
  have hmf := Tryd.mkfn
  have HP := Lib.hid hp; clear hp
  go_enter_defers Tryd.func88, Tryd.ntmps88
  go_wp2_with fail
  refine (HP.out _ ((Ext.rfl' w).al _)).mono ?_
  rintro e W' ⟨rfl, hR⟩
  go_wp2
  refine leaves_cons (f := 115) (args := #[.pointer (some ⟨w.heap.size, 0, none⟩)]) (by simp) (by simp [go_sem]) ?_
  refine (recover_idle ⟨w.heap.size, 0, none⟩ _).mono ?_
  rintro e u' w'' ⟨rfl, rfl, rfl⟩
  simp [Leaves, settle, results, Tryd.results88, hR]

set_option maxRecDepth 100000 in
set_option maxHeartbeats 1000000 in
theorem read_bad (g : Nat) (s : List UInt8) (x : Int) (F : FuncId) (caps : Array Value) (w : World) (h : Rdr w g true s 0) (hx : x ≠ 0)
    (hcf : ∀ W : World, (callFunc F caps).run Tryd.prog W = .ok (.enter F caps) W)
    (hp : ∀ W, Ext w W → Calls Tryd.prog F caps W fun e W' => e = .panicked [{ v := .iface 173 (.agg #[.int .i64 x]), recovered := false }] ∧ (∃ s', Rdr W' g true s' 0) ∧ Only g W W') :
    Calls Tryd.prog 88 #[.pointer (some ⟨g, 0, none⟩), .func (.func F) #[] caps] w fun e w' => e = .returned (.tuple #[]) ∧ Rdr w' g true [] x ∧ Only g w w' := by
  have hg := h.lt
  obtain ⟨c0, c1, c2, f0, f1, f2⟩ := (h.ext ((Ext.rfl' w).al (.cells #[.pointer (some ⟨g, 0, none⟩)] 84))).cells
  have hmf := Tryd.mkfn
  have HP := Lib.hid hp; clear hp
  go_enter_defers Tryd.func88, Tryd.ntmps88
  go_wp2_with fail
  refine (HP.out _ ((Ext.rfl' w).al _)).mono ?_
  rintro e W' ⟨rfl, ⟨s', hR⟩, hO⟩
  have hcell : W'.cell? ⟨w.heap.size, 0, none⟩ = some (.pointer (some ⟨g, 0, none⟩)) := by
    refine (World.cell?_of_block (w := w.alloc _) (a := ⟨w.heap.size, 0, none⟩) (hO.block w.heap.size (by simp) (by simp; omega))).trans ?_
    simp [go_sem]
  have hO' := (Only.of ((Ext.rfl' w).al (.cells #[.pointer (some ⟨g, 0, none⟩)] 84))).tr hO
  clear hO
  go_wp2
  refine leaves_cons (f := 115) (args := #[.pointer (some ⟨w.heap.size, 0, none⟩)]) (by simp) (by simp [go_sem]) ?_
  refine (recover_some w.heap.size g s' x W' hcell hR hx).mono ?_
  rintro e u' w'' ⟨rfl, rfl, hR2, hO2⟩
  simp [Leaves, settle, results, Tryd.results88]
  exact ⟨hR2, hO'.tr hO2⟩

end Go.Proofs.YtmnpbpfeoackiaaDoor

namespace Go.Proofs.YtmnpbpfeoackiaaDoor
open Go.RowKit

set_option maxRecDepth 100000 in
set_option maxHeartbeats 1000000 in
theorem number_ok (g : Nat) (s : List UInt8) (most n k : Nat) (w : World) (h : Rdr w g true s 0) (hs : s.length ≤ 1000000) (hv : vtake s = (n, k, 0)) (hn : n ≤ most) :
    Calls Tryd.prog 91 #[.pointer (some ⟨g, 0, none⟩), .int .u64 most] w fun e w' => e = .returned (.int .u64 n) ∧ Rdr w' g true (s.drop k) 0 ∧ Only g w w' := by
  obtain ⟨c0, c1, c2, f0, f1, f2⟩ := h.cells
  have hk := (vtake_ok hv).2.2.2
  have HV := Lib.hid hv; clear hv
  go_enter Tryd.func91, Tryd.ntmps91
  go_wp2_with fail
  refine (vtake_any _ _ (by rw [size_ofL]; exact hs)).mono ?_
  rintro e w1 ⟨rfl, hE1⟩
  rw [toL_ofL, HV.out]
  have h1 := h.ext hE1
  have d1 : decide (most < n) = false := by simp; omega
  go_wp2_with fail
  refine (take_any g s k _ h1 hk hs).mono ?_
  rintro e w2 ⟨rfl, hR, hO⟩
  go_wp2
  go_ret
  exact ⟨rfl, hR, (Only.of hE1).tr hO⟩

/-- What number gives up with. -/
def numErr (s : List UInt8) (most : Nat) : Int := if (vtake s).2.2 ≠ 0 then ((vtake s).2.2 : Int) else 3

set_option maxRecDepth 100000 in
set_option maxHeartbeats 1000000 in
theorem number_bad (g : Nat) (s : List UInt8) (most : Nat) (w : World) (h : Rdr w g true s 0) (hs : s.length ≤ 1000000) (hv : (vtake s).2.2 ≠ 0 ∨ most < (vtake s).1) :
    Calls Tryd.prog 91 #[.pointer (some ⟨g, 0, none⟩), .int .u64 most] w fun e w' => e = .panicked [{ v := .iface 173 (.agg #[.int .i64 (numErr s most)]), recovered := false }] ∧ Rdr w' g true s 0 ∧ Only g w w' := by
  obtain ⟨c0, c1, c2, f0, f1, f2⟩ := h.cells
  by_cases he : (vtake s).2.2 ≠ 0
  · have hx : numErr s most = ((vtake s).2.2 : Int) := if_pos he
    rw [hx]
    clear hx hv
    obtain ⟨n, k, er, hq⟩ : ∃ n k er, vtake s = (n, k, er) := ⟨_, _, _, rfl⟩
    rw [hq] at he ⊢
    have HV := Lib.hid hq; clear hq
    have t : ((er : Int) != 0) = true := by simp at he ⊢; omega
    clear he
    go_enter Tryd.func91, Tryd.ntmps91
    go_wp2_with fail
    refine (vtake_any _ _ (by rw [size_ofL]; exact hs)).mono ?_
    rintro e w1 ⟨rfl, hE1⟩
    rw [toL_ofL, HV.out]
    have h1 := h.ext hE1
    go_wp2
    simp [bodyPost]
    exact ⟨h1, Only.of hE1⟩
  · have hx : numErr s most = 3 := if_neg he
    rw [hx]
    clear hx
    obtain ⟨n, k, er, hq⟩ : ∃ n k er, vtake s = (n, k, er) := ⟨_, _, _, rfl⟩
    rw [hq] at he hv
    have he0 : er = 0 := by simpa using he
    subst he0
    have hv : most < n := by simpa using hv
    have HV := Lib.hid hq; clear hq he
    have d1 : decide (most < n) = true := by simp; omega
    go_enter Tryd.func91, Tryd.ntmps91
    go_wp2_with fail
    refine (vtake_any _ _ (by rw [size_ofL]; exact hs)).mono ?_
    rintro e w1 ⟨rfl, hE1⟩
    rw [toL_ofL, HV.out]
    have h1 := h.ext hE1
    go_wp2
    simp [bodyPost]
    exact ⟨h1, Only.of hE1⟩

set_option maxRecDepth 100000 in
set_option maxHeartbeats 1000000 in
theorem num1_ok (g b0 b1 b2 : Nat) (s : List UInt8) (most n k : Nat) (v0 : Value) (w : World) (h : Rdr w g true s 0) (hs : s.length ≤ 1000000) (hv : vtake s = (n, k, 0)) (hn : n ≤ most)
    (p0 : w.cell? ⟨b0, 0, none⟩ = some (.pointer (some ⟨g, 0, none⟩))) (p1 : w.cell? ⟨b1, 0, none⟩ = some (.int .u64 most)) (p2 : w.cell? ⟨b2, 0, none⟩ = some v0) (q2 : w.frozen? ⟨b2, 0, none⟩ = false) (hg : b2 ≠ g) :
    Calls Tryd.prog 92 #[.pointer (some ⟨b0, 0, none⟩), .pointer (some ⟨b1, 0, none⟩), .pointer (some ⟨b2, 0, none⟩)] w fun e w' => e = .returned (.tuple #[]) ∧ ∃ w1, Only g w w1 ∧ Rdr w1 g true (s.drop k) 0 ∧ w' = w1.setCell ⟨b2, 0, none⟩ (.int .u64 n) := by
  have hlt := World.block_lt_of_cell? _ _ p2
  go_enter Tryd.func92, Tryd.ntmps92
  go_wp2_with fail
  refine (number_ok g s most n k _ h hs hv hn).mono ?_
  rintro e w1 ⟨rfl, hR, hO⟩
  have p2' := (World.cell?_of_block (w := w) (a := ⟨b2, 0, none⟩) (hO.block b2 hlt (by simpa using hg))).trans p2
  have q2' := (World.frozen?_of_block (w := w) (a := ⟨b2, 0, none⟩) (hO.block b2 hlt (by simpa using hg))).trans q2
  go_wp2
  go_end0
  exact ⟨rfl, w1, hO, hR, rfl⟩

set_option maxRecDepth 100000 in
set_option maxHeartbeats 1000000 in
theorem num1_bad (g b0 b1 b2 : Nat) (s : List UInt8) (most : Nat) (w : World) (h : Rdr w g true s 0) (hs : s.length ≤ 1000000) (hv : (vtake s).2.2 ≠ 0 ∨ most < (vtake s).1)
    (p0 : w.cell? ⟨b0, 0, none⟩ = some (.pointer (some ⟨g, 0, none⟩))) (p1 : w.cell? ⟨b1, 0, none⟩ = some (.int .u64 most)) :
    Calls Tryd.prog 92 #[.pointer (some ⟨b0, 0, none⟩), .pointer (some ⟨b1, 0, none⟩), .pointer (some ⟨b2, 0, none⟩)] w fun e w' => e = .panicked [{ v := .iface 173 (.agg #[.int .i64 (numErr s most)]), recovered := false }] ∧ (∃ s', Rdr w' g true s' 0) ∧ Only g w w' := by
  go_enter Tryd.func92, Tryd.ntmps92
  go_wp2_with fail
  refine (number_bad g s most _ h hs hv).mono ?_
  rintro e w1 ⟨rfl, hR, hO⟩
  go_wp2
  simp [bodyPost]
  exact ⟨⟨s, hR⟩, hO⟩

theorem cf_num1 (caps : Array Value) (W : World) : (callFunc 92 caps).run Tryd.prog W = .ok (.enter 92 caps) W := by simp [go_sem]

theorem numErr_ne (s : List UInt8) (most : Nat) : numErr s most ≠ 0 := by
  unfold numErr
  split <;> omega
theorem rNum_ok {s : List UInt8} {most n k : Nat} (hv : vtake s = (n, k, 0)) (hn : n ≤ most) : rNum (s, 0) most = (n, (s.drop k, 0)) := by
  unfold rNum
  rw [if_neg (by simp), hv, if_neg (by simp), if_neg (by simp; omega)]
theorem rNum_no {s : List UInt8} {most : Nat} (hv : (vtake s).2.2 ≠ 0 ∨ most < (vtake s).1) : rNum (s, 0) most = (0, ([], numErr s most)) := by
  unfold rNum numErr
  rw [if_neg (by simp)]
  by_cases h : (vtake s).2.2 ≠ 0
  · rw [if_pos h, if_pos h]
  · rw [if_neg h, if_neg h, if_pos (by rcases hv with hv | hv; exact absurd hv h; exact hv)]
theorem vtake_cases (s : List UInt8) (most : Nat) : (∃ n k, vtake s = (n, k, 0) ∧ n ≤ most) ∨ ((vtake s).2.2 ≠ 0 ∨ most < (vtake s).1) := by
  by_cases h : (vtake s).2.2 ≠ 0 ∨ most < (vtake s).1
  · exact Or.inr h
  · refine Or.inl ⟨(vtake s).1, (vtake s).2.1, ?_, by omega⟩
    have : (vtake s).2.2 = 0 := by omega
    rw [← this]

set_option maxRecDepth 100000 in
set_option maxHeartbeats 1000000 in
theorem num_any (g : Nat) (x : RS) (most : Nat) (w : World) (h : Rdr w g true x.1 x.2) (hs : x.1.length ≤ 1000000) :
    Calls Tryd.prog 53 #[.pointer (some ⟨g, 0, none⟩), .int .u64 most] w fun e w' => e = .returned (.int .u64 (rNum x most).1) ∧ Rdr w' g true (rNum x most).2.1 (rNum x most).2.2 ∧ Only g w w' := by
  obtain ⟨s, er⟩ := x
  have hg := h.lt
  have hmf := Tryd.mkfn
  obtain ⟨w3, hw3, hE3, p0, p1, p2, q2, hz⟩ := boxes3 w (.pointer (some ⟨g, 0, none⟩)) (.int .u64 (most : Int)) (.int .u64 0) 84 82 82
  have HW3 := Lib.hid hw3; clear hw3
  have HZ := Lib.hid hz; clear hz
  have h3 := h.ext hE3
  by_cases h0 : er = 0
  · subst h0
    rcases vtake_cases s most with ⟨n, k, hv, hn⟩ | hv
    · rw [rNum_ok hv hn]
      go_enter Tryd.func53, Tryd.ntmps53
      go_wp2_with fail
      rw [← HW3.out]
      refine (read_ok g s 92 _ w3 h3 (fun W' => Rdr W' g true (s.drop k) 0 ∧ Only g w W' ∧ W'.cell? ⟨w.heap.size + 1 + 1, 0, none⟩ = some (.int .u64 n) ∧ W'.frozen? ⟨w.heap.size + 1 + 1, 0, none⟩ = false) (cf_num1 _) ?_).mono ?_
      · intro W hE
        obtain ⟨kc, kf⟩ := bcell hE
        have hsz := HZ.out
        refine (num1_ok g _ _ _ s most n k _ W (h3.ext hE) hs hv hn ((kc _ _ (by omega)).trans p0) ((kc _ _ (by omega)).trans p1) ((kc _ _ (by omega)).trans p2) ((kf _ _ (by omega)).trans q2) (by omega)).mono ?_
        rintro e W' ⟨rfl, w1, hO, hR, rfl⟩
        have hO' : Only g w w1 := (Only.of (hE3.tr hE)).tr hO
        have hb : w1.cell? ⟨w.heap.size + 1 + 1, 0, none⟩ = some (.int .u64 0) := (World.cell?_of_block (w := W) (a := ⟨w.heap.size + 1 + 1, 0, none⟩) (hO.block (w.heap.size + 1 + 1) (by have := hE.size; omega) (by simp; omega))).trans ((kc _ _ (by omega)).trans p2)
        have hf : w1.frozen? ⟨w.heap.size + 1 + 1, 0, none⟩ = false := (World.frozen?_of_block (w := W) (a := ⟨w.heap.size + 1 + 1, 0, none⟩) (hO.block (w.heap.size + 1 + 1) (by have := hE.size; omega) (by simp; omega))).trans ((kf _ _ (by omega)).trans q2)
        refine ⟨rfl, hR.stNew (by simp; omega) _, hO'.stNew (by simp; omega) _, ?_, ?_⟩
        · simp [go_sem, hb]
        · simp [go_sem, hf]
      rintro e w4 ⟨rfl, hR, hO, hc, hf⟩
      go_wp2
      have fin := cell_set_same hc (.int .u64 (n : Int))
      refine bodyPost_ret (v := .int .u64 (n : Int)) (by simp [results, Tryd.results53, go_sem, fin]) rfl ?_
      exact ⟨rfl, hR.stNew (by simp; omega) _, hO.stNew (by simp; omega) _⟩
    · rw [rNum_no hv]
      go_enter Tryd.func53, Tryd.ntmps53
      go_wp2_with fail
      rw [← HW3.out]
      refine (read_bad g s (numErr s most) 92 _ w3 h3 (numErr_ne _ _) (cf_num1 _) ?_).mono ?_
      · intro W hE
        obtain ⟨kc, kf⟩ := bcell hE
        have hsz := HZ.out
        exact num1_bad g _ _ _ s most W (h3.ext hE) hs hv ((kc _ _ (by omega)).trans p0) ((kc _ _ (by omega)).trans p1)
      rintro e w4 ⟨rfl, hR, hO⟩
      have hsz := HZ.out
      have p2' := (World.cell?_of_block (w := w3) (a := ⟨w.heap.size + 1 + 1, 0, none⟩) (hO.block (w.heap.size + 1 + 1) (by omega) (by simp; omega))).trans p2
      have q2' := (World.frozen?_of_block (w := w3) (a := ⟨w.heap.size + 1 + 1, 0, none⟩) (hO.block (w.heap.size + 1 + 1) (by omega) (by simp; omega))).trans q2
      have hO' : Only g w w4 := (Only.of hE3).tr hO
      clear hsz hO
      go_wp2
      have fin := cell_set_same p2' (.int .u64 0)
      refine bodyPost_ret (v := .int .u64 0) (by simp [results, Tryd.results53, go_sem, fin]) rfl ?_
      exact ⟨rfl, hR.stNew (by simp; omega) _, hO'.stNew (by simp; omega) _⟩
  · rw [rNum_bad _ h0]
    go_enter Tryd.func53, Tryd.ntmps53
    go_wp2_with fail
    rw [← HW3.out]
    refine (read_skip g s er 92 _ w3 h3 h0).mono ?_
    rintro e w4 ⟨rfl, hE⟩
    have hsz := HZ.out
    have p2' := ((bcell hE).1 _ _ (by omega)).trans p2
    have q2' := ((bcell hE).2 _ _ (by omega)).trans q2
    have hR := h3.ext hE
    have hO' : Only g w w4 := Only.of (hE3.tr hE)
    clear hsz
    go_wp2
    have fin := cell_set_same p2' (.int .u64 0)
    refine bodyPost_ret (v := .int .u64 0) (by simp [results, Tryd.results53, go_sem, fin]) rfl ?_
    exact ⟨rfl, hR.stNew (by simp; omega) _, hO'.stNew (by simp; omega) _⟩
end Go.Proofs.YtmnpbpfeoackiaaDoor

namespace Go.Proofs.YtmnpbpfeoackiaaDoor
open Go.RowKit

theorem Only.cell {g b : Nat} {v : Value} {w w' : World} (hO : Only g w w') (h : w.cell? ⟨b, 0, none⟩ = some v) (hb : b ≠ g) : w'.cell? ⟨b, 0, none⟩ = some v :=
  (World.cell?_of_block (w := w) (a := ⟨b, 0, none⟩) (hO.block b (World.block_lt_of_cell? _ _ h) (by simpa using hb))).trans h
theorem Only.frozen {g b : Nat} {v : Value} {w w' : World} (hO : Only g w w') (h : w.cell? ⟨b, 0, none⟩ = some v) (hb : b ≠ g) (hf : w.frozen? ⟨b, 0, none⟩ = false) : w'.frozen? ⟨b, 0, none⟩ = false :=
  (World.frozen?_of_block (w := w) (a := ⟨b, 0, none⟩) (hO.block b (World.block_lt_of_cell? _ _ h) (by simpa using hb))).trans hf

theorem cell_set_far {w : World} {a b i j : Nat} {v : Option Value} (h : w.cell? ⟨a, i, none⟩ = v) (hne : a ≠ b) (u : Value) : (w.setCell ⟨b, j, none⟩ u).cell? ⟨a, i, none⟩ = v :=
  (World.cell?_of_block (w := w) (a := ⟨a, i, none⟩) (Below.heap_setCell w ⟨b, j, none⟩ u a hne)).trans h

set_option maxRecDepth 100000 in
set_option maxHeartbeats 1000000 in
theorem text1_ok (g b0 b1 b2 : Nat) (s : List UInt8) (m : Int) (M n k : Nat) (v0 : Value) (w : World) (h : Rdr w g true s 0) (hs : s.length ≤ 1000000) (e1 : max m 0 = (M : Int)) (hm : M ≤ 9223372036854775807) (hv : vtake s = (n, k, 0)) (hn : n ≤ M) (hl : n ≤ (s.drop k).length)
    (p0 : w.cell? ⟨b0, 0, none⟩ = some (.pointer (some ⟨g, 0, none⟩))) (p1 : w.cell? ⟨b1, 0, none⟩ = some (.int .i64 m)) (p2 : w.cell? ⟨b2, 0, none⟩ = some v0) (q2 : w.frozen? ⟨b2, 0, none⟩ = false) (hg : b2 ≠ g) (hg0 : b0 ≠ g) (hg1 : b1 ≠ g) (hb0 : b0 ≠ b2) (hb1 : b1 ≠ b2) :
    Calls Tryd.prog 89 #[.pointer (some ⟨b0, 0, none⟩), .pointer (some ⟨b1, 0, none⟩), .pointer (some ⟨b2, 0, none⟩)] w fun e w' => e = .returned (.tuple #[]) ∧ ∃ w1, Only g w w1 ∧ Rdr w1 g true ((s.drop k).drop n) 0 ∧ w' = w1.setCell ⟨b2, 0, none⟩ (.string (ofL ((s.drop k).take n))) := by
  have e2 : IntKind.u64.wrap (M : Int) = (M : Int) := U64.wrap (by show _ < _; omega)
  have e3 : IntKind.i64.wrap (n : Int) = n := IntWalk.i64_in _ (by omega)
  have hd : (s.drop k).length ≤ 1000000 := by simp; omega
  clear hm
  go_enter Tryd.func89, Tryd.ntmps89
  go_region_held3 (fun w' => w'.cell? ⟨b0, 0, none⟩ = some (.pointer (some ⟨g, 0, none⟩)) ∧ w'.cell? ⟨b1, 0, none⟩ = some (.int .i64 m)) (first | exact ⟨p0, p1⟩ | exact ⟨k0, k1⟩ | exact ⟨j0, j1⟩ | exact ⟨cell_set_far j0 hb0 _, cell_set_far j1 hb1 _⟩) (first
    | (go_at_call 91; refine (number_ok g s M n k _ (by exact h) hs hv hn).mono ?_; rintro e w1 ⟨rfl, hR, hO⟩; have k0 := hO.cell p0 hg0; have k1 := hO.cell p1 hg1; have k2 := hO.cell p2 hg; have k3 := hO.frozen p2 hg q2)
    | (go_at_call 90; refine (take_any g (s.drop k) n _ (by exact hR) hl hd).mono ?_; rintro e w2 ⟨rfl, hR2, hO2⟩; have j0 := hO2.cell k0 hg0; have j1 := hO2.cell k1 hg1; have j2 := hO2.cell k2 hg; have j3 := hO2.frozen k2 hg k3))
  all_goals
    go_end0
    exact ⟨rfl, w2, (Only.of ((Ext.rfl' w).dr)).tr (hO.tr hO2), hR2, rfl⟩

theorem panic_put {P : Program} {fn : Func} {R : Ending → World → Prop} (d : Option Tmp) (v : Value) (c : List PanicEntry) (a : Act) (w : World) (h : bodyPost P fn R (.panic c) (a.put d v) w) : bodyPost P fn R (.panic c) a w := by
  cases d <;> exact h

theorem wpOp_enter {P : Program} {ops : Array Oper} {Q : Exit → Act → World → Prop} {i : Nat} {K : Act → World → Prop} {a : Act} {w : World} {o : Oper} {f : FuncId} {args : Array Value} (hi : ops[i]? = some o) (hw : Region.wanted o (yielded ops a.tmps) = true)
    (hr : (execOp a.eval o).run P w = .ok (.enter f args) w) (h : Calls P f args w fun e w'' => match e with
      | .returned v => K (a.put o.dst v) w''
      | .panicked c => Q (.panic c) a w''
      | .outgrown => False) : wpOp P ops Q i K a w := by
  unfold wpOp
  simp only [hi, hw, if_true]
  left
  unfold Oper.wp
  rw [hr, Oper.upon_enter]
  refine h.mono fun e w'' he => ?_
  cases e with
  | returned v => exact he
  | panicked c => exact he
  | outgrown => exact he.elim

set_option maxRecDepth 100000 in
set_option maxHeartbeats 1000000 in
theorem text1_end (g b0 b1 b2 : Nat) (s : List UInt8) (m : Int) (M n k : Nat) (w : World) (h : Rdr w g true s 0) (hs : s.length ≤ 1000000) (e1 : max m 0 = (M : Int)) (hm : M ≤ 9223372036854775807) (hv : vtake s = (n, k, 0)) (hn : n ≤ M) (hl : (s.drop k).length < n)
    (p0 : w.cell? ⟨b0, 0, none⟩ = some (.pointer (some ⟨g, 0, none⟩))) (p1 : w.cell? ⟨b1, 0, none⟩ = some (.int .i64 m)) (hg0 : b0 ≠ g) (hg1 : b1 ≠ g) :
    Calls Tryd.prog 89 #[.pointer (some ⟨b0, 0, none⟩), .pointer (some ⟨b1, 0, none⟩), .pointer (some ⟨b2, 0, none⟩)] w fun e w' => e = .panicked [{ v := .iface 173 (.agg #[.int .i64 1]), recovered := false }] ∧ (∃ s', Rdr w' g true s' 0) ∧ Only g w w' := by
  have e2 : IntKind.u64.wrap (M : Int) = (M : Int) := U64.wrap (by show _ < _; omega)
  have e3 : IntKind.i64.wrap (n : Int) = n := IntWalk.i64_in _ (by omega)
  have hd : (s.drop k).length ≤ 1000000 := by simp; omega
  clear hm
  go_enter Tryd.func89, Tryd.ntmps89
  refine wp_region_held (S := fun w' => w'.cell? ⟨b0, 0, none⟩ = some (.pointer (some ⟨g, 0, none⟩)) ∧ w'.cell? ⟨b1, 0, none⟩ = some (.int .i64 m)) (by kernel_rfl) ?_
  refine wpAnyH_take (i := 0) (v := .pointer (some ⟨g, 0, none⟩)) rfl (by kernel_rfl) (by kernel_rfl) (by kernel_rfl) (panic_put _ _) (.inl ⟨by kernel_rfl, fun W hS => ?_⟩) ⟨p0, p1⟩ ?_
  · obtain ⟨s0, s1⟩ := hS
    go_simp
  refine wpAnyH_take (i := 1) (v := .pointer (some ⟨g, 0, none⟩)) rfl (by kernel_rfl) (by kernel_rfl) (by kernel_rfl) (panic_put _ _) (.inl ⟨by kernel_rfl, fun W hS => ?_⟩) ⟨p0, p1⟩ ?_
  · obtain ⟨s0, s1⟩ := hS
    go_simp
  refine wpAnyH_take (i := 2) (v := .int .i64 m) rfl (by kernel_rfl) (by kernel_rfl) (by kernel_rfl) (panic_put _ _) (.inl ⟨by kernel_rfl, fun W hS => ?_⟩) ⟨p0, p1⟩ ?_
  · obtain ⟨s0, s1⟩ := hS
    go_simp
  refine wpAnyH_take (i := 3) (v := .int .i64 (M : Int)) rfl (by kernel_rfl) (by kernel_rfl) (by kernel_rfl) (panic_put _ _) (.inl ⟨by kernel_rfl, fun W hS => ?_⟩) ⟨p0, p1⟩ ?_
  · go_simp
  refine wpAnyH_take (i := 4) (v := .int .u64 (M : Int)) rfl (by kernel_rfl) (by kernel_rfl) (by kernel_rfl) (panic_put _ _) (.inl ⟨by kernel_rfl, fun W hS => ?_⟩) ⟨p0, p1⟩ ?_
  · go_simp
  refine wpAnyH_all (rs := [5]) (by kernel_rfl) (by simp) (fun i hi => ?_)
  obtain rfl : i = 5 := by simpa using hi
  refine wpOp_enter rfl (by kernel_rfl) (f := 91) (args := #[.pointer (some ⟨g, 0, none⟩), .int .u64 (M : Int)]) (by go_simp) ?_
  refine (number_ok g s M n k _ (by exact h) hs hv hn).mono ?_
  rintro e w1 ⟨rfl, hR, hO⟩
  refine ⟨⟨hO.cell p0 hg0, hO.cell p1 hg1⟩, ?_⟩
  refine wpAnyH_take (i := 6) (v := .int .i64 (n : Int)) rfl (by kernel_rfl) (by kernel_rfl) (by kernel_rfl) (panic_put _ _) (.inl ⟨by kernel_rfl, fun W hS => ?_⟩) ⟨hO.cell p0 hg0, hO.cell p1 hg1⟩ ?_
  · go_simp
  refine wpAnyH_all (rs := [7]) (by kernel_rfl) (by simp) (fun i hi => ?_)
  obtain rfl : i = 7 := by simpa using hi
  refine wpOp_enter rfl (by kernel_rfl) (f := 90) (args := #[.pointer (some ⟨g, 0, none⟩), .int .i64 (n : Int)]) (by go_simp) ?_
  refine (take_end g (s.drop k) n _ hR hl hd).mono ?_
  rintro e w2 ⟨rfl, rfl⟩
  exact ⟨rfl, rfl, ⟨_, hR⟩, ((Only.of ((Ext.rfl' w).dr)).tr hO)⟩

set_option maxRecDepth 100000 in
set_option maxHeartbeats 1000000 in
theorem text1_bad (g b0 b1 b2 : Nat) (s : List UInt8) (m : Int) (M : Nat) (w : World) (h : Rdr w g true s 0) (hs : s.length ≤ 1000000) (e1 : max m 0 = (M : Int)) (hm : M ≤ 9223372036854775807) (hv : (vtake s).2.2 ≠ 0 ∨ M < (vtake s).1)
    (p0 : w.cell? ⟨b0, 0, none⟩ = some (.pointer (some ⟨g, 0, none⟩))) (p1 : w.cell? ⟨b1, 0, none⟩ = some (.int .i64 m)) :
    Calls Tryd.prog 89 #[.pointer (some ⟨b0, 0, none⟩), .pointer (some ⟨b1, 0, none⟩), .pointer (some ⟨b2, 0, none⟩)] w fun e w' => e = .panicked [{ v := .iface 173 (.agg #[.int .i64 (numErr s M)]), recovered := false }] ∧ (∃ s', Rdr w' g true s' 0) ∧ Only g w w' := by
  have e2 : IntKind.u64.wrap (M : Int) = (M : Int) := U64.wrap (by show _ < _; omega)
  clear hm
  go_enter Tryd.func89, Tryd.ntmps89
  refine wp_region_held (S := fun w' => w'.cell? ⟨b0, 0, none⟩ = some (.pointer (some ⟨g, 0, none⟩)) ∧ w'.cell? ⟨b1, 0, none⟩ = some (.int .i64 m)) (by kernel_rfl) ?_
  refine wpAnyH_take (i := 0) (v := .pointer (some ⟨g, 0, none⟩)) rfl (by kernel_rfl) (by kernel_rfl) (by kernel_rfl) (panic_put _ _) (.inl ⟨by kernel_rfl, fun W hS => ?_⟩) ⟨p0, p1⟩ ?_
  · obtain ⟨s0, s1⟩ := hS
    go_simp
  refine wpAnyH_take (i := 1) (v := .pointer (some ⟨g, 0, none⟩)) rfl (by kernel_rfl) (by kernel_rfl) (by kernel_rfl) (panic_put _ _) (.inl ⟨by kernel_rfl, fun W hS => ?_⟩) ⟨p0, p1⟩ ?_
  · obtain ⟨s0, s1⟩ := hS
    go_simp
  refine wpAnyH_take (i := 2) (v := .int .i64 m) rfl (by kernel_rfl) (by kernel_rfl) (by kernel_rfl) (panic_put _ _) (.inl ⟨by kernel_rfl, fun W hS => ?_⟩) ⟨p0, p1⟩ ?_
  · obtain ⟨s0, s1⟩ := hS
    go_simp
  refine wpAnyH_take (i := 3) (v := .int .i64 (M : Int)) rfl (by kernel_rfl) (by kernel_rfl) (by kernel_rfl) (panic_put _ _) (.inl ⟨by kernel_rfl, fun W hS => ?_⟩) ⟨p0, p1⟩ ?_
  · go_simp
  refine wpAnyH_take (i := 4) (v := .int .u64 (M : Int)) rfl (by kernel_rfl) (by kernel_rfl) (by kernel_rfl) (panic_put _ _) (.inl ⟨by kernel_rfl, fun W hS => ?_⟩) ⟨p0, p1⟩ ?_
  · go_simp
  refine wpAnyH_all (rs := [5]) (by kernel_rfl) (by simp) (fun i hi => ?_)
  obtain rfl : i = 5 := by simpa using hi
  refine wpOp_enter rfl (by kernel_rfl) (f := 91) (args := #[.pointer (some ⟨g, 0, none⟩), .int .u64 (M : Int)]) (by go_simp) ?_
  refine (number_bad g s M _ (by exact h) hs hv).mono ?_
  rintro e w1 ⟨rfl, hR, hO⟩
  exact ⟨rfl, rfl, ⟨_, hR⟩, ((Only.of ((Ext.rfl' w).dr)).tr hO)⟩
end Go.Proofs.YtmnpbpfeoackiaaDoor

namespace Go.Proofs.YtmnpbpfeoackiaaDoor
open Go.RowKit

theorem cf_text1 (caps : Array Value) (W : World) : (callFunc 89 caps).run Tryd.prog W = .ok (.enter 89 caps) W := by simp [go_sem]
theorem cf_byte1 (caps : Array Value) (W : World) : (callFunc 117 caps).run Tryd.prog W = .ok (.enter 117 caps) W := by simp [go_sem]

theorem rText_ok {s : List UInt8} {most : Int} {n k : Nat} (hv : vtake s = (n, k, 0)) (hn : n ≤ most.toNat) (hl : n ≤ (s.drop k).length) : rText (s, 0) most = ((s.drop k).take n, ((s.drop k).drop n, 0)) := by
  unfold rText
  rw [rNum_ok hv hn]
  rw [if_neg (by simp), if_neg (by simp at hl ⊢; omega)]
theorem rText_end {s : List UInt8} {most : Int} {n k : Nat} (hv : vtake s = (n, k, 0)) (hn : n ≤ most.toNat) (hl : (s.drop k).length < n) : rText (s, 0) most = ([], ([], 1)) := by
  unfold rText
  rw [rNum_ok hv hn]
  rw [if_neg (by simp), if_pos (by exact hl)]
theorem rText_no {s : List UInt8} {most : Int} (hv : (vtake s).2.2 ≠ 0 ∨ most.toNat < (vtake s).1) : rText (s, 0) most = ([], ([], numErr s most.toNat)) := by
  unfold rText
  rw [rNum_no hv, if_pos (numErr_ne s most.toNat)]

set_option maxRecDepth 100000 in
set_option maxHeartbeats 1000000 in
theorem text_any (g : Nat) (x : RS) (m : Int) (w : World) (h : Rdr w g true x.1 x.2) (hs : x.1.length ≤ 1000000) (hm : m ≤ 9223372036854775807) :
    Calls Tryd.prog 52 #[.pointer (some ⟨g, 0, none⟩), .int .i64 m] w fun e w' => e = .returned (.string (ofL (rText x m).1)) ∧ Rdr w' g true (rText x m).2.1 (rText x m).2.2 ∧ Only g w w' := by
  obtain ⟨s, er⟩ := x
  have hg := h.lt
  have hmf := Tryd.mkfn
  obtain ⟨w3, hw3, hE3, p0, p1, p2, q2, hz⟩ := boxes3 w (.pointer (some ⟨g, 0, none⟩)) (.int .i64 m) (.string (ofL [])) 84 3 9
  have HW3 := Lib.hid hw3; clear hw3
  have HZ := Lib.hid hz; clear hz
  have h3 := h.ext hE3
  have e1 : max m 0 = ((m.toNat : Nat) : Int) := (Int.toNat_eq_max m).symm
  have hM : m.toNat ≤ 9223372036854775807 := by omega
  obtain ⟨M, rM⟩ : ∃ M, m.toNat = M := ⟨_, rfl⟩
  rw [rM] at e1 hM
  have BAD : ∀ xe : Int, xe ≠ 0 → (∀ W, Ext w3 W → Calls Tryd.prog 89 #[.pointer (some ⟨w.heap.size, 0, none⟩), .pointer (some ⟨w.heap.size + 1, 0, none⟩), .pointer (some ⟨w.heap.size + 1 + 1, 0, none⟩)] W fun e W' => e = .panicked [{ v := .iface 173 (.agg #[.int .i64 xe]), recovered := false }] ∧ (∃ s', Rdr W' g true s' 0) ∧ Only g W W') → er = 0 →
      Calls Tryd.prog 52 #[.pointer (some ⟨g, 0, none⟩), .int .i64 m] w fun e w' => e = .returned (.string (ofL [])) ∧ Rdr w' g true [] xe ∧ Only g w w' := by
    intro xe hxe hcall h0
    subst h0
    clear e1 hM rM hs hm
    go_enter Tryd.func52, Tryd.ntmps52
    go_wp2_with fail
    rw [show (⟨#[]⟩ : ByteArray) = ofL [] from rfl, ← HW3.out]
    refine (read_bad g s xe 89 _ w3 h3 hxe (cf_text1 _) hcall).mono ?_
    rintro e w4 ⟨rfl, hR, hO⟩
    have hsz := HZ.out
    have p2' := (World.cell?_of_block (w := w3) (a := ⟨w.heap.size + 1 + 1, 0, none⟩) (hO.block (w.heap.size + 1 + 1) (by omega) (by simp; omega))).trans p2
    have q2' := (World.frozen?_of_block (w := w3) (a := ⟨w.heap.size + 1 + 1, 0, none⟩) (hO.block (w.heap.size + 1 + 1) (by omega) (by simp; omega))).trans q2
    have hO' : Only g w w4 := (Only.of hE3).tr hO
    clear hsz hO
    go_wp2
    have fin := cell_set_same p2' (.string (ofL []))
    refine bodyPost_ret (v := .string (ofL [])) (by simp [results, Tryd.results52, go_sem, fin]) rfl ?_
    exact ⟨rfl, hR.stNew (by simp; omega) _, hO'.stNew (by simp; omega) _⟩
  by_cases h0 : er = 0
  · subst h0
    rcases vtake_cases s m.toNat with ⟨n, k, hv, hn⟩ | hv
    · by_cases hl : n ≤ (s.drop k).length
      · rw [rText_ok hv hn hl]
        rw [rM] at hn
        clear BAD rM hm
        have HM := Lib.hid hM; clear hM
        have HL := Lib.hid hl; clear hl
        go_enter Tryd.func52, Tryd.ntmps52
        go_wp2_with fail
        rw [show (⟨#[]⟩ : ByteArray) = ofL [] from rfl, ← HW3.out]
        refine (read_ok g s 89 _ w3 h3 (fun W' => Rdr W' g true ((s.drop k).drop n) 0 ∧ Only g w W' ∧ W'.cell? ⟨w.heap.size + 1 + 1, 0, none⟩ = some (.string (ofL ((s.drop k).take n))) ∧ W'.frozen? ⟨w.heap.size + 1 + 1, 0, none⟩ = false) (cf_text1 _) ?_).mono ?_
        · intro W hE
          obtain ⟨kc, kf⟩ := bcell hE
          have hsz := HZ.out
          refine (text1_ok g _ _ _ s m M n k _ W (h3.ext hE) hs e1 HM.out hv hn HL.out ((kc _ _ (by omega)).trans p0) ((kc _ _ (by omega)).trans p1) ((kc _ _ (by omega)).trans p2) ((kf _ _ (by omega)).trans q2) (by omega) (by omega) (by omega) (by omega) (by omega)).mono ?_
          rintro e W' ⟨rfl, w1, hO, hR, rfl⟩
          have hO' : Only g w w1 := (Only.of (hE3.tr hE)).tr hO
          have hb : w1.cell? ⟨w.heap.size + 1 + 1, 0, none⟩ = some (.string (ofL [])) := (World.cell?_of_block (w := W) (a := ⟨w.heap.size + 1 + 1, 0, none⟩) (hO.block (w.heap.size + 1 + 1) (by have := hE.size; omega) (by simp; omega))).trans ((kc _ _ (by omega)).trans p2)
          have hf : w1.frozen? ⟨w.heap.size + 1 + 1, 0, none⟩ = false := (World.frozen?_of_block (w := W) (a := ⟨w.heap.size + 1 + 1, 0, none⟩) (hO.block (w.heap.size + 1 + 1) (by have := hE.size; omega) (by simp; omega))).trans ((kf _ _ (by omega)).trans q2)
          refine ⟨rfl, hR.stNew (by simp; omega) _, hO'.stNew (by simp; omega) _, cell_set_same hb _, ?_⟩
          simp [go_sem, hf]
        rintro e w4 ⟨rfl, hR, hO, hc, hf⟩
        go_wp2
        have fin := cell_set_same hc (.string (ofL ((s.drop k).take n)))
        refine bodyPost_ret (v := .string (ofL ((s.drop k).take n))) (by simp [results, Tryd.results52, go_sem, fin]) rfl ?_
        exact ⟨rfl, hR.stNew (by simp; omega) _, hO.stNew (by simp; omega) _⟩
      · rw [rText_end hv hn (by omega)]
        refine BAD 1 (by decide) (fun W hE => ?_) rfl
        obtain ⟨kc, kf⟩ := bcell hE
        have hsz := HZ.out
        rw [rM] at hn
        exact text1_end g _ _ _ s m M n k W (h3.ext hE) hs e1 hM hv hn (by omega) ((kc _ _ (by omega)).trans p0) ((kc _ _ (by omega)).trans p1) (by omega) (by omega)
    · rw [rText_no hv, rM]
      refine BAD _ (numErr_ne s M) (fun W hE => ?_) rfl
      obtain ⟨kc, kf⟩ := bcell hE
      have hsz := HZ.out
      rw [rM] at hv
      exact text1_bad g _ _ _ s m M W (h3.ext hE) hs e1 hM hv ((kc _ _ (by omega)).trans p0) ((kc _ _ (by omega)).trans p1)
  · rw [rText_bad _ h0]
    clear BAD e1 hM rM hm
    go_enter Tryd.func52, Tryd.ntmps52
    go_wp2_with fail
    rw [show (⟨#[]⟩ : ByteArray) = ofL [] from rfl, ← HW3.out]
    refine (read_skip g s er 89 _ w3 h3 h0).mono ?_
    rintro e w4 ⟨rfl, hE⟩
    have hsz := HZ.out
    have p2' := ((bcell hE).1 _ _ (by omega)).trans p2
    have q2' := ((bcell hE).2 _ _ (by omega)).trans q2
    have hR := h3.ext hE
    have hO' : Only g w w4 := Only.of (hE3.tr hE)
    clear hsz
    go_wp2
    have fin := cell_set_same p2' (.string (ofL []))
    refine bodyPost_ret (v := .string (ofL [])) (by simp [results, Tryd.results52, go_sem, fin]) rfl ?_
    exact ⟨rfl, hR.stNew (by simp; omega) _, hO'.stNew (by simp; omega) _⟩

set_option maxRecDepth 100000 in
set_option maxHeartbeats 1000000 in
theorem byte1_ok (g b0 b1 : Nat) (s : List UInt8) (v0 : Value) (w : World) (h : Rdr w g true s 0) (hs : s.length ≤ 1000000) (hl : s ≠ [])
    (p0 : w.cell? ⟨b0, 0, none⟩ = some (.pointer (some ⟨g, 0, none⟩))) (p2 : w.cell? ⟨b1, 0, none⟩ = some v0) (q2 : w.frozen? ⟨b1, 0, none⟩ = false) (hg : b1 ≠ g) :
    Calls Tryd.prog 117 #[.pointer (some ⟨b0, 0, none⟩), .pointer (some ⟨b1, 0, none⟩)] w fun e w' => e = .returned (.tuple #[]) ∧ ∃ w1, Only g w w1 ∧ Rdr w1 g true (s.drop 1) 0 ∧ w' = w1.setCell ⟨b1, 0, none⟩ (.int .u8 (s.headD 0).toNat) := by
  obtain ⟨x, r, rfl⟩ : ∃ x r, s = x :: r := by cases s with
    | nil => exact absurd rfl hl
    | cons x r => exact ⟨x, r, rfl⟩
  have hlt := World.block_lt_of_cell? _ _ p2
  have e1 : (ofL (List.take 1 (x :: r))).size = 1 := by simp [size_ofL]
  have e2 : (ofL (List.take 1 (x :: r))).data[0]?.map (fun b => (b.toNat : Int)) = some (x.toNat : Int) := rfl
  clear hl
  go_enter Tryd.func117, Tryd.ntmps117
  go_wp2_with fail
  refine (take_any g (x :: r) 1 _ h (by simp) hs).mono ?_
  rintro e w1 ⟨rfl, hR, hO⟩
  have p2' := (World.cell?_of_block (w := w) (a := ⟨b1, 0, none⟩) (hO.block b1 hlt (by simpa using hg))).trans p2
  have q2' := (World.frozen?_of_block (w := w) (a := ⟨b1, 0, none⟩) (hO.block b1 hlt (by simpa using hg))).trans q2
  go_wp2
  go_end0
  exact ⟨rfl, w1, hO, hR, rfl⟩

set_option maxRecDepth 100000 in
set_option maxHeartbeats 1000000 in
theorem byte1_end (g b0 b1 : Nat) (w : World) (h : Rdr w g true [] 0)
    (p0 : w.cell? ⟨b0, 0, none⟩ = some (.pointer (some ⟨g, 0, none⟩))) :
    Calls Tryd.prog 117 #[.pointer (some ⟨b0, 0, none⟩), .pointer (some ⟨b1, 0, none⟩)] w fun e w' => e = .panicked [{ v := .iface 173 (.agg #[.int .i64 1]), recovered := false }] ∧ (∃ s', Rdr w' g true s' 0) ∧ Only g w w' := by
  go_enter Tryd.func117, Tryd.ntmps117
  go_wp2_with fail
  refine (take_end g [] 1 _ h (by simp) (by simp)).mono ?_
  rintro e w1 ⟨rfl, rfl⟩
  go_wp2
  simp [bodyPost]
  exact ⟨⟨_, h⟩, Only.rfl' g w⟩

theorem rByte_ok {s : List UInt8} (hl : s ≠ []) : rByte (s, 0) = (s.headD 0, (s.drop 1, 0)) := by
  unfold rByte
  rw [if_neg (by simp), if_neg (by exact hl)]
theorem rByte_end : rByte ([], 0) = (0, ([], 1)) := rfl

set_option maxRecDepth 100000 in
set_option maxHeartbeats 1000000 in
theorem byte_any (g : Nat) (x : RS) (w : World) (h : Rdr w g true x.1 x.2) (hs : x.1.length ≤ 1000000) :
    Calls Tryd.prog 93 #[.pointer (some ⟨g, 0, none⟩)] w fun e w' => e = .returned (.int .u8 (rByte x).1.toNat) ∧ Rdr w' g true (rByte x).2.1 (rByte x).2.2 ∧ Only g w w' := by
  obtain ⟨s, er⟩ := x
  have hg := h.lt
  have hmf := Tryd.mkfn
  obtain ⟨w3, hw3, hE3, p0, p2, q2, hz⟩ := boxes2 w (.pointer (some ⟨g, 0, none⟩)) (.int .u8 0) 84 5
  have HW3 := Lib.hid hw3; clear hw3
  have HZ := Lib.hid hz; clear hz
  have h3 := h.ext hE3
  have BAD : ∀ xe : Int, xe ≠ 0 → (∀ W, Ext w3 W → Calls Tryd.prog 117 #[.pointer (some ⟨w.heap.size, 0, none⟩), .pointer (some ⟨w.heap.size + 1, 0, none⟩)] W fun e W' => e = .panicked [{ v := .iface 173 (.agg #[.int .i64 xe]), recovered := false }] ∧ (∃ s', Rdr W' g true s' 0) ∧ Only g W W') → er = 0 →
      Calls Tryd.prog 93 #[.pointer (some ⟨g, 0, none⟩)] w fun e w' => e = .returned (.int .u8 0) ∧ Rdr w' g true [] xe ∧ Only g w w' := by
    intro xe hxe hcall h0
    subst h0
    clear hs
    go_enter Tryd.func93, Tryd.ntmps93
    go_wp2_with fail
    rw [← HW3.out]
    refine (read_bad g s xe 117 _ w3 h3 hxe (cf_byte1 _) hcall).mono ?_
    rintro e w4 ⟨rfl, hR, hO⟩
    have hsz := HZ.out
    have p2' := (World.cell?_of_block (w := w3) (a := ⟨w.heap.size + 1, 0, none⟩) (hO.block (w.heap.size + 1) (by omega) (by simp <;> omega))).trans p2
    have q2' := (World.frozen?_of_block (w := w3) (a := ⟨w.heap.size + 1, 0, none⟩) (hO.block (w.heap.size + 1) (by omega) (by simp <;> omega))).trans q2
    have hO' : Only g w w4 := (Only.of hE3).tr hO
    clear hsz hO
    go_wp2
    have fin := cell_set_same p2' (.int .u8 0)
    refine bodyPost_ret (v := .int .u8 0) (by simp [results, Tryd.results93, go_sem, fin]) rfl ?_
    exact ⟨rfl, hR.stNew (by simp <;> omega) _, hO'.stNew (by simp <;> omega) _⟩
  by_cases h0 : er = 0
  · subst h0
    by_cases hl : s ≠ []
    · rw [rByte_ok hl]
      clear BAD
      obtain ⟨c, hc⟩ : ∃ c, c = s.headD 0 := ⟨_, rfl⟩
      rw [← hc]
      have HC := Lib.hid hc; clear hc
      have HL := Lib.hid hl; clear hl
      go_enter Tryd.func93, Tryd.ntmps93
      go_wp2_with fail
      rw [← HW3.out]
      refine (read_ok g s 117 _ w3 h3 (fun W' => Rdr W' g true (s.drop 1) 0 ∧ Only g w W' ∧ W'.cell? ⟨w.heap.size + 1, 0, none⟩ = some (.int .u8 c.toNat) ∧ W'.frozen? ⟨w.heap.size + 1, 0, none⟩ = false) (cf_byte1 _) ?_).mono ?_
      · intro W hE
        obtain ⟨kc, kf⟩ := bcell hE
        have hsz := HZ.out
        rw [HC.out]
        refine (byte1_ok g _ _ s _ W (h3.ext hE) hs HL.out ((kc _ _ (by omega)).trans p0) ((kc _ _ (by omega)).trans p2) ((kf _ _ (by omega)).trans q2) (by omega)).mono ?_
        rintro e W' ⟨rfl, w1, hO, hR, rfl⟩
        have hO' : Only g w w1 := (Only.of (hE3.tr hE)).tr hO
        have hb : w1.cell? ⟨w.heap.size + 1, 0, none⟩ = some (.int .u8 0) := (World.cell?_of_block (w := W) (a := ⟨w.heap.size + 1, 0, none⟩) (hO.block (w.heap.size + 1) (by have := hE.size; omega) (by simp <;> omega))).trans ((kc _ _ (by omega)).trans p2)
        have hf : w1.frozen? ⟨w.heap.size + 1, 0, none⟩ = false := (World.frozen?_of_block (w := W) (a := ⟨w.heap.size + 1, 0, none⟩) (hO.block (w.heap.size + 1) (by have := hE.size; omega) (by simp <;> omega))).trans ((kf _ _ (by omega)).trans q2)
        refine ⟨rfl, hR.stNew (by simp <;> omega) _, hO'.stNew (by simp <;> omega) _, cell_set_same hb _, ?_⟩
        simp [go_sem, hf]
      rintro e w4 ⟨rfl, hR, hO, hc, hf⟩
      go_wp2
      have fin := cell_set_same hc (.int .u8 c.toNat)
      refine bodyPost_ret (v := .int .u8 c.toNat) (by simp [results, Tryd.results93, go_sem, fin]) rfl ?_
      exact ⟨rfl, hR.stNew (by simp <;> omega) _, hO.stNew (by simp <;> omega) _⟩
    · have hl : s = [] := by simpa using hl
      subst hl
      rw [rByte_end]
      refine BAD 1 (by decide) (fun W hE => ?_) rfl
      obtain ⟨kc, kf⟩ := bcell hE
      have hsz := HZ.out
      exact byte1_end g _ _ W (h3.ext hE) ((kc _ _ (by omega)).trans p0)
  · rw [rByte_bad (x := (s, er)) h0]
    clear BAD
    go_enter Tryd.func93, Tryd.ntmps93
    go_wp2_with fail
    rw [← HW3.out]
    refine (read_skip g s er 117 _ w3 h3 h0).mono ?_
    rintro e w4 ⟨rfl, hE⟩
    have hsz := HZ.out
    have p2' := ((bcell hE).1 _ _ (by omega)).trans p2
    have q2' := ((bcell hE).2 _ _ (by omega)).trans q2
    have hR := h3.ext hE
    have hO' : Only g w w4 := Only.of (hE3.tr hE)
    clear hsz
    go_wp2
    have fin := cell_set_same p2' (.int .u8 0)
    refine bodyPost_ret (v := .int .u8 0) (by simp [results, Tryd.results93, go_sem, fin]) rfl ?_
    exact ⟨rfl, hR.stNew (by simp <;> omega) _, hO'.stNew (by simp <;> omega) _⟩

theorem fail_any (g : Nat) (x : RS) (e : Int) (w : World) (h : Rdr w g true x.1 x.2) :
    Calls Tryd.prog 57 #[.pointer (some ⟨g, 0, none⟩), .int .i64 e] w fun ee w' => ee = .returned (.tuple #[]) ∧ Rdr w' g true (rFail x e).1 (rFail x e).2 ∧ Only g w w' := by
  obtain ⟨s, er⟩ := x
  by_cases hx : er ≠ 0 ∨ e = 0
  · have : rFail (s, er) e = (s, er) := if_pos hx
    rw [this]
    refine (fail_no g s er e w h hx).mono ?_
    rintro ee w' ⟨rfl, rfl⟩
    exact ⟨rfl, h, Only.rfl' _ _⟩
  · have : rFail (s, er) e = ([], e) := if_neg hx
    rw [this]
    have h0 : er = 0 := by omega
    subst h0
    exact fail_yes g s e w h (by omega)

set_option maxHeartbeats 400000 in
theorem end_any (g : Nat) (x : RS) (w : World) (h : Rdr w g true x.1 x.2) (hs : x.1.length ≤ 1000000) :
    Calls Tryd.prog 71 #[.pointer (some ⟨g, 0, none⟩)] w fun e w' => e = .returned (.int .i64 (rEnd x).2) ∧ Rdr w' g true (rEnd x).1 (rEnd x).2 ∧ Only g w w' := by
  obtain ⟨s, er⟩ := x
  by_cases hl : s ≠ []
  · have hx : rEnd (s, er) = rFail (s, er) 2 := if_pos hl
    rw [hx]
    have hp : 0 < s.length := List.length_pos_iff.2 hl
    have d : decide (0 < s.length) = true := by simp; omega
    generalize hy : rFail (s, er) 2 = y
    have HY := Lib.hid hy; clear hy hx hl
    go_enter Tryd.func71, Tryd.ntmps71
    go_wp2_with fail
    refine (left_any g true s er _ h).mono ?_
    rintro e w1 ⟨rfl, rfl⟩
    go_wp2_with fail
    refine (fail_any g (s, er) 2 _ h).mono ?_
    rintro e w2 ⟨rfl, hR, hO⟩
    rw [HY.out] at hR
    go_wp2_with fail
    refine (err_any g _ _ _ hR).mono ?_
    rintro e w3 ⟨rfl, rfl⟩
    go_wp2
    go_ret
    exact ⟨rfl, hR, hO⟩
  · have hl : s = [] := by simpa using hl
    subst hl
    have hx : rEnd ([], er) = ([], er) := if_neg (by simp)
    rw [hx]
    clear hx
    go_enter Tryd.func71, Tryd.ntmps71
    go_wp2_with fail
    refine (left_any g true [] er _ h).mono ?_
    rintro e w1 ⟨rfl, rfl⟩
    go_wp2_with fail
    refine (err_any g _ _ _ h).mono ?_
    rintro e w3 ⟨rfl, rfl⟩
    go_wp2
    go_ret
    exact ⟨rfl, h, Only.rfl' _ _⟩
end Go.Proofs.YtmnpbpfeoackiaaDoor
