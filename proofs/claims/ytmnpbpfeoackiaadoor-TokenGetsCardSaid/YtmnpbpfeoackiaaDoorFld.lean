/-
  Package field's reader: what each method does to the reader's block. Condition: what is left is at most 1000000 bytes.
-/
import Derived.Test.YtmnpbpfeoackiaaDoorVar
import Derived.Test.YtmnpbpfeoackiaaDoorFldPlain
import Derived.Test.YtmnpbpfeoackiaaDoorOnly
import Derived.Recover
namespace Go.Proofs.YtmnpbpfeoackiaaDoor
open Go.RowKit

/-- The reader in block g: made or not, what is left, what was wrong. -/
def Rdr (w : World) (g : Nat) (m : Bool) (s : List UInt8) (e : Int) : Prop := w.heap[g]? = some (.cells #[.bool m, .string (ofL s), .int .i64 e] 139 (0, 0))

theorem Rdr.cells {w : World} {g : Nat} {m : Bool} {s : List UInt8} {e : Int} (h : Rdr w g m s e) :
    w.cell? ⟨g, 0, none⟩ = some (.bool m) ∧ w.cell? ⟨g, 1, none⟩ = some (.string (ofL s)) ∧ w.cell? ⟨g, 2, none⟩ = some (.int .i64 e) ∧
    w.frozen? ⟨g, 0, none⟩ = false ∧ w.frozen? ⟨g, 1, none⟩ = false ∧ w.frozen? ⟨g, 2, none⟩ = false := by
  have hc := fun i => cell_of_row w g i _ _ _ h
  have hf := fun i => frozen_of_row w g i _ _ h
  exact ⟨hc 0, hc 1, hc 2, hf 0, hf 1, hf 2⟩
theorem Rdr.lt {w : World} {g : Nat} {m : Bool} {s : List UInt8} {e : Int} (h : Rdr w g m s e) : g < w.heap.size := (Array.getElem?_eq_some_iff.1 h).1
theorem Rdr.ext {w w' : World} {g : Nat} {m : Bool} {s : List UInt8} {e : Int} (h : Rdr w g m s e) (hE : Ext w w') : Rdr w' g m s e := (hE.block g h.lt).trans h

theorem Rdr.stNew {w : World} {g : Nat} {m : Bool} {s : List UInt8} {e : Int} (h : Rdr w g m s e) {p : Addr} (hp : g ≠ p.block) (u : Value) : Rdr (w.setCell p u) g m s e := (Below.heap_setCell w p u g hp).trans h
set_option maxHeartbeats 400000 in
theorem new_any (a : ByteArray) (w : World) :
    Calls Tryd.prog 51 #[.string a] w fun e w' => e = .returned (.pointer (some ⟨w.heap.size, 0, none⟩)) ∧ Rdr w' w.heap.size true (toL a) 0 ∧ Ext w w' := by
  go_enter Tryd.func51, Tryd.ntmps51
  go_wp2
  go_ret
  exact ⟨rfl, by unfold Rdr; rw [ofL_toL]; exact heap_alloc_new w _, (Ext.rfl' _).al _⟩

set_option maxHeartbeats 400000 in
theorem left_any (g : Nat) (m : Bool) (s : List UInt8) (e : Int) (w : World) (h : Rdr w g m s e) :
    Calls Tryd.prog 56 #[.pointer (some ⟨g, 0, none⟩)] w fun e w' => e = .returned (.int .i64 s.length) ∧ w' = w := by
  obtain ⟨c0, c1, c2, f0, f1, f2⟩ := h.cells
  go_enter Tryd.func56, Tryd.ntmps56
  go_wp2
  go_ret
  exact ⟨rfl, rfl⟩

set_option maxHeartbeats 400000 in
theorem err_any (g : Nat) (s : List UInt8) (er : Int) (w : World) (h : Rdr w g true s er) :
    Calls Tryd.prog 55 #[.pointer (some ⟨g, 0, none⟩)] w fun e w' => e = .returned (.int .i64 er) ∧ w' = w := by
  obtain ⟨c0, c1, c2, f0, f1, f2⟩ := h.cells
  go_enter Tryd.func55, Tryd.ntmps55
  go_wp2
  go_ret
  exact ⟨rfl, rfl⟩

set_option maxHeartbeats 400000 in
theorem fail_yes (g : Nat) (s : List UInt8) (x : Int) (w : World) (h : Rdr w g true s 0) (hx : x ≠ 0) :
    Calls Tryd.prog 57 #[.pointer (some ⟨g, 0, none⟩), .int .i64 x] w fun e w' => e = .returned (.tuple #[]) ∧ Rdr w' g true [] x ∧ Only g w w' := by
  obtain ⟨c0, c1, c2, f0, f1, f2⟩ := h.cells
  have t : (x == 0) = false := by simp [hx]
  go_enter Tryd.func57, Tryd.ntmps57
  go_wp2
  go_end0
  refine ⟨rfl, ?_, ((Only.rfl' g w).st 2 _).st 1 _⟩
  have h1 := heap_setCell_same w g 2 _ _ (.int .i64 x) h
  exact heap_setCell_same _ g 1 _ _ (.string ⟨#[]⟩) h1

set_option maxHeartbeats 400000 in
theorem fail_no (g : Nat) (s : List UInt8) (er x : Int) (w : World) (h : Rdr w g true s er) (hx : er ≠ 0 ∨ x = 0) :
    Calls Tryd.prog 57 #[.pointer (some ⟨g, 0, none⟩), .int .i64 x] w fun e w' => e = .returned (.tuple #[]) ∧ w' = w := by
  obtain ⟨c0, c1, c2, f0, f1, f2⟩ := h.cells
  by_cases h0 : er = 0
  · have hx0 : x = 0 := by
      rcases hx with hx | hx
      · exact absurd h0 hx
      · exact hx
    subst h0
    subst hx0
    clear hx
    go_enter Tryd.func57, Tryd.ntmps57
    go_wp2
    first | go_end0 | refine bodyPost_ret (results_none rfl _ _ _) rfl ?_
    exact ⟨rfl, rfl⟩
  · have t : (er != 0) = true := by simp [h0]
    clear hx
    go_enter Tryd.func57, Tryd.ntmps57
    go_wp2
    first | go_end0 | refine bodyPost_ret (results_none rfl _ _ _) rfl ?_
    exact ⟨rfl, rfl⟩

set_option maxHeartbeats 400000 in
theorem take_any (g : Nat) (s : List UInt8) (n : Nat) (w : World) (h : Rdr w g true s 0) (hn : n ≤ s.length) (hs : s.length ≤ 1000000) :
    Calls Tryd.prog 90 #[.pointer (some ⟨g, 0, none⟩), .int .i64 n] w fun e w' => e = .returned (.string (ofL (s.take n))) ∧ Rdr w' g true (s.drop n) 0 ∧ Only g w w' := by
  obtain ⟨c0, c1, c2, f0, f1, f2⟩ := h.cells
  go_enter Tryd.func90, Tryd.ntmps90
  go_wp2
  go_ret
  refine ⟨ret_str (by rw [extract_to, toL_ofL]), ?_, (Only.rfl' g w).st 1 _⟩
  have h1 := heap_setCell_same w g 1 _ _ (.string ((ofL s).extract n s.length)) h
  rw [show (ofL s).extract n s.length = ofL (s.drop n) from by rw [← size_ofL s, extract_from, toL_ofL]] at h1
  rw [show (ofL s).extract n s.length = ofL (s.drop n) from by rw [← size_ofL s, extract_from, toL_ofL]]
  exact h1

set_option maxHeartbeats 400000 in
theorem take_end (g : Nat) (s : List UInt8) (n : Nat) (w : World) (h : Rdr w g true s 0) (hn : s.length < n) (hs : s.length ≤ 1000000) :
    Calls Tryd.prog 90 #[.pointer (some ⟨g, 0, none⟩), .int .i64 n] w fun e w' => e = .panicked [{ v := .iface 173 (.agg #[.int .i64 1]), recovered := false }] ∧ w = w' := by
  obtain ⟨c0, c1, c2, f0, f1, f2⟩ := h.cells
  go_enter Tryd.func90, Tryd.ntmps90
  go_wp2
  simp [bodyPost]

theorem recover_idle (p : Addr) (w : World) :
    CallsD Tryd.prog 115 #[.pointer (some p)] .returning w fun e u' w' => e = .returned (.tuple #[]) ∧ u' = .returning ∧ w' = w := by
  refine callsD_of_wpS Tryd.func115 rfl fun c₀ cs hu => ?_
  apply wpS_seq
  apply wpS_region
  simp [wpOpsS, go_sem, recoverD, hu, Tryd.ntmps115, Exit.thenS]
  refine wpS_of_wp ?_
  have e : #[Value.pointer (some p)] ++ (Array.replicate 13 undef).setIfInBounds 3 Value.nilIface = #[.pointer (some p), undef, undef, undef, .nilIface, undef, undef, undef, undef, undef, undef, undef, undef, undef] := rfl
  rw [e]
  go_wp2
  cases c₀
  simp_all [bodyPostS, results, Tryd.results115]

set_option maxRecDepth 100000 in
set_option maxHeartbeats 1000000 in
theorem recover_some (b g : Nat) (s : List UInt8) (x : Int) (w : World) (hp : w.cell? ⟨b, 0, none⟩ = some (.pointer (some ⟨g, 0, none⟩))) (h : Rdr w g true s 0) (hx : x ≠ 0) :
    CallsD Tryd.prog 115 #[.pointer (some ⟨b, 0, none⟩)] (.panicking [{ v := .iface 173 (.agg #[.int .i64 x]), recovered := false }]) w fun e u' w' =>
      e = .returned (.tuple #[]) ∧ u' = .panicking [{ v := .iface 173 (.agg #[.int .i64 x]), recovered := true }] ∧ Rdr w' g true [] x ∧ Only g w w' := by
  refine callsD_of_wpS Tryd.func115 rfl fun c₀ cs hu => ?_
  apply wpS_seq
  apply wpS_region
  simp [wpOpsS, go_sem, recoverD, hu, Tryd.ntmps115, Exit.thenS]
  refine wpS_of_wp ?_
  have e : #[Value.pointer (some ⟨b, 0, none⟩)] ++ (Array.replicate 13 undef).setIfInBounds 3 (.iface 173 (.agg #[.int .i64 x])) = #[.pointer (some ⟨b, 0, none⟩), undef, undef, undef, .iface 173 (.agg #[.int .i64 x]), undef, undef, undef, undef, undef, undef, undef, undef, undef] := rfl
  rw [e]
  have ha : ∀ W : World, (Instr.typeAssert (.iface 173 (.agg #[.int .i64 x])) 20 173 true).run Tryd.prog W = .ok (.tuple #[.agg #[.int .i64 x], .bool true]) W := fun W => by kernel_rfl
  have hbl := World.block_lt_of_cell? _ _ hp
  have hp' : ∀ o, (w.alloc o).cell? ⟨b, 0, none⟩ = some (.pointer (some ⟨g, 0, none⟩)) := fun o => (World.cell?_alloc_lt w o ⟨b, 0, none⟩ hbl).trans hp
  have h' : ∀ o, Rdr (w.alloc o) g true s 0 := fun o => h.ext ((Ext.rfl' w).al o)
  have H' := Lib.hid h'; clear h'
  go_wp2_with fail
  refine (fail_yes g s x _ (H'.out _) hx).mono ?_
  rintro e1 w1 ⟨rfl, hR, hO⟩
  go_wp2
  have hO' : Only g w w1 := (Only.of ((Ext.rfl' w).al _)).tr hO
  simp [bodyPostS, results, Tryd.results115, hR, hO']

theorem Tryd.mkfn : ∀ (fn : Fn) (first cap : Array Value) (w : World), (Instr.makeFunc fn first cap).run Tryd.prog w = .ok (.func fn first cap) w := fun _ _ _ _ => rfl

set_option maxRecDepth 100000 in
set_option maxHeartbeats 1000000 in
theorem read_skip (g : Nat) (s : List UInt8) (er : Int) (F : FuncId) (caps : Array Value) (w : World) (h : Rdr w g true s er) (h0 : er ≠ 0) :
    Calls Tryd.prog 88 #[.pointer (some ⟨g, 0, none⟩), .func (.func F) #[] caps] w fun e w' => e = .returned (.tuple #[]) ∧ Ext w w' := by
  have hg := h.lt
  obtain ⟨c0, c1, c2, f0, f1, f2⟩ := (h.ext ((Ext.rfl' w).al (.cells #[.pointer (some ⟨g, 0, none⟩)] 84))).cells
  have t : (er != 0) = true := by simp [h0]
  have hmf := Tryd.mkfn
  go_enter_defers Tryd.func88, Tryd.ntmps88
  go_wp2
  simp [bodyPostD, Leaves, results, Tryd.results88]
  exact (Ext.rfl' w).al _

set_option maxRecDepth 100000 in
set_option maxHeartbeats 1000000 in
theorem read_ok (g : Nat) (s : List UInt8) (F : FuncId) (caps : Array Value) (w : World) (h : Rdr w g true s 0) (R : World → Prop)
    (hcf : ∀ W : World, (callFunc F caps).run Tryd.prog W = .ok (.enter F caps) W)
    (hp : ∀ W, Ext w W → Calls Tryd.prog F caps W fun e W' => e = .returned (.tuple #[]) ∧ R W') :
    Calls Tryd.prog 88 #[.pointer (some ⟨g, 0, none⟩), .func (.func F) #[] caps] w fun e w' => e = .returned (.tuple #[]) ∧ R w' := by
  have hg := h.lt
  obtain ⟨c0, c1, c2, f0, f1, f2⟩ := (h.ext ((Ext.rfl' w).al (.cells #[.pointer (some ⟨g, 0, none⟩)] 84))).cells
  have hmf := Tryd.mkfn
  have HP := Lib.hid hp; clear hp
  go_enter_defers Tryd.func88, Tryd.ntmps88
  go_wp2_with fail
  refine (HP.out _ ((Ext.rfl' w).al _)).mono ?_
  rintro e W' ⟨rfl, hR⟩
  go_wp2
  refine leaves_cons (f := 115) (args := #[.pointer (some ⟨w.heap.size, 0, none⟩)]) (by simp) (by simp [go_sem]) ?_
  refine (recover_idle ⟨w.heap.size, 0, none⟩ _).mono ?_
  rintro e u' w'' ⟨rfl, rfl, rfl⟩
  simp [Leaves, settle, results, Tryd.results88, hR]

set_option maxRecDepth 100000 in
set_option maxHeartbeats 1000000 in
theorem read_bad (g : Nat) (s : List UInt8) (x : Int) (F : FuncId) (caps : Array Value) (w : World) (h : Rdr w g true s 0) (hx : x ≠ 0)
    (hcf : ∀ W : World, (callFunc F caps).run Tryd.prog W = .ok (.enter F caps) W)
    (hp : ∀ W, Ext w W → Calls Tryd.prog F caps W fun e W' => e = .panicked [{ v := .iface 173 (.agg #[.int .i64 x]), recovered := false }] ∧ (∃ s', Rdr W' g true s' 0) ∧ Only g W W') :
    Calls Tryd.prog 88 #[.pointer (some ⟨g, 0, none⟩), .func (.func F) #[] caps] w fun e w' => e = .returned (.tuple #[]) ∧ Rdr w' g true [] x ∧ Only g w w' := by
  have hg := h.lt
  obtain ⟨c0, c1, c2, f0, f1, f2⟩ := (h.ext ((Ext.rfl' w).al (.cells #[.pointer (some ⟨g, 0, none⟩)] 84))).cells
  have hmf := Tryd.mkfn
  have HP := Lib.hid hp; clear hp
  go_enter_defers Tryd.func88, Tryd.ntmps88
  go_wp2_with fail
  refine (HP.out _ ((Ext.rfl' w).al _)).mono ?_
  rintro e W' ⟨rfl, ⟨s', hR⟩, hO⟩
  have hcell : W'.cell? ⟨w.heap.size, 0, none⟩ = some (.pointer (some ⟨g, 0, none⟩)) := by
    refine (World.cell?_of_block (w := w.alloc _) (a := ⟨w.heap.size, 0, none⟩) (hO.block w.heap.size (by simp) (by simp; omega))).trans ?_
    simp [go_sem]
  have hO' := (Only.of ((Ext.rfl' w).al (.cells #[.pointer (some ⟨g, 0, none⟩)] 84))).tr hO
  clear hO
  go_wp2
  refine leaves_cons (f := 115) (args := #[.pointer (some ⟨w.heap.size, 0, none⟩)]) (by simp) (by simp [go_sem]) ?_
  refine (recover_some w.heap.size g s' x W' hcell hR hx).mono ?_
  rintro e u' w'' ⟨rfl, rfl, hR2, hO2⟩
  simp [Leaves, settle, results, Tryd.results88]
  exact ⟨hR2, hO'.tr hO2⟩

end Go.Proofs.YtmnpbpfeoackiaaDoor
