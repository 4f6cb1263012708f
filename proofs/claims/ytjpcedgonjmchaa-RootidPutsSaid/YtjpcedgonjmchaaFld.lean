/-
  Package field's reader: what each method does to the reader's block. Condition: what is left is at most 1000000 bytes.
-/
import Derived.Test.YtjpcedgonjmchaaVar
import Derived.Test.YtjpcedgonjmchaaFldPlain
import Derived.Recover
namespace Go.Proofs.Ytjpcedgonjmchaa
open Go.RowKit

/-- The reader in block g: made or not, what is left, what was wrong. -/
def Rdr (w : World) (g : Nat) (m : Bool) (s : List UInt8) (e : Int) : Prop := w.heap[g]? = some (.cells #[.bool m, .string (ofL s), .int .i64 e] 77 (0, 0))

theorem Rdr.cells {w : World} {g : Nat} {m : Bool} {s : List UInt8} {e : Int} (h : Rdr w g m s e) :
    w.cell? ⟨g, 0, none⟩ = some (.bool m) ∧ w.cell? ⟨g, 1, none⟩ = some (.string (ofL s)) ∧ w.cell? ⟨g, 2, none⟩ = some (.int .i64 e) ∧
    w.frozen? ⟨g, 0, none⟩ = false ∧ w.frozen? ⟨g, 1, none⟩ = false ∧ w.frozen? ⟨g, 2, none⟩ = false := by
  have hc := fun i => cell_of_row w g i _ _ _ h
  have hf := fun i => frozen_of_row w g i _ _ h
  exact ⟨hc 0, hc 1, hc 2, hf 0, hf 1, hf 2⟩
theorem Rdr.lt {w : World} {g : Nat} {m : Bool} {s : List UInt8} {e : Int} (h : Rdr w g m s e) : g < w.heap.size := (Array.getElem?_eq_some_iff.1 h).1
theorem Rdr.ext {w w' : World} {g : Nat} {m : Bool} {s : List UInt8} {e : Int} (h : Rdr w g m s e) (hE : Ext w w') : Rdr w' g m s e := (hE.block g h.lt).trans h

/-- Only block g, and what is new, has turned. -/
abbrev Only (g : Nat) (w w' : World) : Prop := w.grownBy w' (some g)
theorem Only.rfl' (g : Nat) (w : World) : Only g w w := World.grownBy.refl w _
theorem Only.tr {g : Nat} {a b c : World} (h : Only g a b) (k : Only g b c) : Only g a c :=
  ⟨k.os.trans h.os, k.tape.trans h.tape, k.output.trans h.output, Nat.le_trans h.size k.size, fun i hi hne => (k.block i (Nat.lt_of_lt_of_le hi h.size) hne).trans (h.block i hi hne)⟩
theorem Only.ext {g : Nat} {a b c : World} (h : Only g a b) (k : Ext b c) : Only g a c :=
  ⟨k.os.trans h.os, k.tape.trans h.tape, k.output.trans h.output, Nat.le_trans h.size k.size, fun i hi hne => (k.block i (Nat.lt_of_lt_of_le hi h.size)).trans (h.block i hi hne)⟩
theorem Only.of {g : Nat} {a b : World} (k : Ext a b) : Only g a b := (Only.rfl' g a).ext k
theorem Only.st {g : Nat} {a b : World} (h : Only g a b) (i : Nat) (u : Value) : Only g a (b.setCell ⟨g, i, none⟩ u) :=
  ⟨h.os, h.tape, h.output, by simpa [World.setCell] using h.size, fun k hk hne => (Below.heap_setCell b ⟨g, i, none⟩ u k (fun e => hne (by rw [e]))).trans (h.block k hk hne)⟩
theorem Only.stNew {g : Nat} {a b : World} (h : Only g a b) {p : Addr} (hp : a.heap.size ≤ p.block) (u : Value) : Only g a (b.setCell p u) :=
  ⟨h.os, h.tape, h.output, by simpa [World.setCell] using h.size, fun k hk hne => (Below.heap_setCell b p u k (by omega)).trans (h.block k hk hne)⟩
theorem Rdr.stNew {w : World} {g : Nat} {m : Bool} {s : List UInt8} {e : Int} (h : Rdr w g m s e) {p : Addr} (hp : g ≠ p.block) (u : Value) : Rdr (w.setCell p u) g m s e := (Below.heap_setCell w p u g hp).trans h
theorem Only.toExt {g : Nat} {a b : World} {w : World} (h : Only g a b) (hE : Ext w a) (hg : w.heap.size ≤ g) : Ext w b := hE.gr h fun k hk => by
  have : g = k := by simpa using hk
  omega

set_option maxHeartbeats 400000 in
theorem new_any (a : ByteArray) (w : World) :
    Calls Try.prog 30 #[.string a] w fun e w' => e = .returned (.pointer (some ⟨w.heap.size, 0, none⟩)) ∧ Rdr w' w.heap.size true (toL a) 0 ∧ Ext w w' := by
  go_enter Try.func30, Try.ntmps30
  go_wp2
  go_ret
  exact ⟨rfl, by unfold Rdr; rw [ofL_toL]; exact heap_alloc_new w _, (Ext.rfl' _).al _⟩

set_option maxHeartbeats 400000 in
theorem left_any (g : Nat) (m : Bool) (s : List UInt8) (e : Int) (w : World) (h : Rdr w g m s e) :
    Calls Try.prog 55 #[.pointer (some ⟨g, 0, none⟩)] w fun e w' => e = .returned (.int .i64 s.length) ∧ w' = w := by
  obtain ⟨c0, c1, c2, f0, f1, f2⟩ := h.cells
  go_enter Try.func55, Try.ntmps55
  go_wp2
  go_ret
  exact ⟨rfl, rfl⟩

set_option maxHeartbeats 400000 in
theorem err_any (g : Nat) (s : List UInt8) (er : Int) (w : World) (h : Rdr w g true s er) :
    Calls Try.prog 56 #[.pointer (some ⟨g, 0, none⟩)] w fun e w' => e = .returned (.int .i64 er) ∧ w' = w := by
  obtain ⟨c0, c1, c2, f0, f1, f2⟩ := h.cells
  go_enter Try.func56, Try.ntmps56
  go_wp2
  go_ret
  exact ⟨rfl, rfl⟩

set_option maxHeartbeats 400000 in
theorem fail_yes (g : Nat) (s : List UInt8) (x : Int) (w : World) (h : Rdr w g true s 0) (hx : x ≠ 0) :
    Calls Try.prog 32 #[.pointer (some ⟨g, 0, none⟩), .int .i64 x] w fun e w' => e = .returned (.tuple #[]) ∧ Rdr w' g true [] x ∧ Only g w w' := by
  obtain ⟨c0, c1, c2, f0, f1, f2⟩ := h.cells
  have t : (x == 0) = false := by simp [hx]
  go_enter Try.func32, Try.ntmps32
  go_wp2
  go_end0
  refine ⟨rfl, ?_, ((Only.rfl' g w).st 2 _).st 1 _⟩
  have h1 := heap_setCell_same w g 2 _ _ (.int .i64 x) h
  exact heap_setCell_same _ g 1 _ _ (.string ⟨#[]⟩) h1

set_option maxHeartbeats 400000 in
theorem fail_no (g : Nat) (s : List UInt8) (er x : Int) (w : World) (h : Rdr w g true s er) (hx : er ≠ 0 ∨ x = 0) :
    Calls Try.prog 32 #[.pointer (some ⟨g, 0, none⟩), .int .i64 x] w fun e w' => e = .returned (.tuple #[]) ∧ w' = w := by
  obtain ⟨c0, c1, c2, f0, f1, f2⟩ := h.cells
  by_cases h0 : er = 0
  · have hx0 : x = 0 := by
      rcases hx with hx | hx
      · exact absurd h0 hx
      · exact hx
    subst h0
    subst hx0
    clear hx
    go_enter Try.func32, Try.ntmps32
    go_wp2
    first | go_end0 | refine bodyPost_ret (results_none rfl _ _ _) rfl ?_
    exact ⟨rfl, rfl⟩
  · have t : (er != 0) = true := by simp [h0]
    clear hx
    go_enter Try.func32, Try.ntmps32
    go_wp2
    first | go_end0 | refine bodyPost_ret (results_none rfl _ _ _) rfl ?_
    exact ⟨rfl, rfl⟩

set_option maxHeartbeats 400000 in
theorem take_any (g : Nat) (s : List UInt8) (n : Nat) (w : World) (h : Rdr w g true s 0) (hn : n ≤ s.length) (hs : s.length ≤ 1000000) :
    Calls Try.prog 51 #[.pointer (some ⟨g, 0, none⟩), .int .i64 n] w fun e w' => e = .returned (.string (ofL (s.take n))) ∧ Rdr w' g true (s.drop n) 0 ∧ Only g w w' := by
  obtain ⟨c0, c1, c2, f0, f1, f2⟩ := h.cells
  go_enter Try.func51, Try.ntmps51
  go_wp2
  go_ret
  refine ⟨ret_str (by rw [extract_to, toL_ofL]), ?_, (Only.rfl' g w).st 1 _⟩
  have h1 := heap_setCell_same w g 1 _ _ (.string ((ofL s).extract n s.length)) h
  rw [show (ofL s).extract n s.length = ofL (s.drop n) from by rw [← size_ofL s, extract_from, toL_ofL]] at h1
  rw [show (ofL s).extract n s.length = ofL (s.drop n) from by rw [← size_ofL s, extract_from, toL_ofL]]
  exact h1

set_option maxHeartbeats 400000 in
theorem take_end (g : Nat) (s : List UInt8) (n : Nat) (w : World) (h : Rdr w g true s 0) (hn : s.length < n) (hs : s.length ≤ 1000000) :
    Calls Try.prog 51 #[.pointer (some ⟨g, 0, none⟩), .int .i64 n] w fun e w' => e = .panicked [{ v := .iface 96 (.agg #[.int .i64 1]), recovered := false }] ∧ w = w' := by
  obtain ⟨c0, c1, c2, f0, f1, f2⟩ := h.cells
  go_enter Try.func51, Try.ntmps51
  go_wp2
  simp [bodyPost]

theorem recover_idle (p : Addr) (w : World) :
    CallsD Try.prog 62 #[.pointer (some p)] .returning w fun e u' w' => e = .returned (.tuple #[]) ∧ u' = .returning ∧ w' = w := by
  refine callsD_of_wpS Try.func62 rfl fun c₀ cs hu => ?_
  apply wpS_seq
  apply wpS_region
  simp [wpOpsS, go_sem, recoverD, hu, Try.ntmps62, Exit.thenS]
  refine wpS_of_wp ?_
  have e : #[Value.pointer (some p)] ++ (Array.replicate 13 undef).setIfInBounds 3 Value.nilIface = #[.pointer (some p), undef, undef, undef, .nilIface, undef, undef, undef, undef, undef, undef, undef, undef, undef] := rfl
  rw [e]
  go_wp2
  cases c₀
  simp_all [bodyPostS, results, Try.results62]

set_option maxRecDepth 100000 in
set_option maxHeartbeats 1000000 in
theorem recover_some (b g : Nat) (s : List UInt8) (x : Int) (w : World) (hp : w.cell? ⟨b, 0, none⟩ = some (.pointer (some ⟨g, 0, none⟩))) (h : Rdr w g true s 0) (hx : x ≠ 0) :
    CallsD Try.prog 62 #[.pointer (some ⟨b, 0, none⟩)] (.panicking [{ v := .iface 96 (.agg #[.int .i64 x]), recovered := false }]) w fun e u' w' =>
      e = .returned (.tuple #[]) ∧ u' = .panicking [{ v := .iface 96 (.agg #[.int .i64 x]), recovered := true }] ∧ Rdr w' g true [] x ∧ Only g w w' := by
  refine callsD_of_wpS Try.func62 rfl fun c₀ cs hu => ?_
  apply wpS_seq
  apply wpS_region
  simp [wpOpsS, go_sem, recoverD, hu, Try.ntmps62, Exit.thenS]
  refine wpS_of_wp ?_
  have e : #[Value.pointer (some ⟨b, 0, none⟩)] ++ (Array.replicate 13 undef).setIfInBounds 3 (.iface 96 (.agg #[.int .i64 x])) = #[.pointer (some ⟨b, 0, none⟩), undef, undef, undef, .iface 96 (.agg #[.int .i64 x]), undef, undef, undef, undef, undef, undef, undef, undef, undef] := rfl
  rw [e]
  have ha : ∀ W : World, (Instr.typeAssert (.iface 96 (.agg #[.int .i64 x])) 20 96 true).run Try.prog W = .ok (.tuple #[.agg #[.int .i64 x], .bool true]) W := fun W => by kernel_rfl
  have hbl := World.block_lt_of_cell? _ _ hp
  have hp' : ∀ o, (w.alloc o).cell? ⟨b, 0, none⟩ = some (.pointer (some ⟨g, 0, none⟩)) := fun o => (World.cell?_alloc_lt w o ⟨b, 0, none⟩ hbl).trans hp
  have h' : ∀ o, Rdr (w.alloc o) g true s 0 := fun o => h.ext ((Ext.rfl' w).al o)
  have H' := Lib.hid h'; clear h'
  go_wp2_with fail
  refine (fail_yes g s x _ (H'.out _) hx).mono ?_
  rintro e1 w1 ⟨rfl, hR, hO⟩
  go_wp2
  have hO' : Only g w w1 := (Only.of ((Ext.rfl' w).al _)).tr hO
  simp [bodyPostS, results, Try.results62, hR, hO']

theorem Try.mkfn : ∀ (fn : Fn) (first cap : Array Value) (w : World), (Instr.makeFunc fn first cap).run Try.prog w = .ok (.func fn first cap) w := fun _ _ _ _ => rfl

set_option maxRecDepth 100000 in
set_option maxHeartbeats 1000000 in
theorem read_skip (g : Nat) (s : List UInt8) (er : Int) (F : FuncId) (caps : Array Value) (w : World) (h : Rdr w g true s er) (h0 : er ≠ 0) :
    Calls Try.prog 49 #[.pointer (some ⟨g, 0, none⟩), .func (.func F) #[] caps] w fun e w' => e = .returned (.tuple #[]) ∧ Ext w w' := by
  have hg := h.lt
  obtain ⟨c0, c1, c2, f0, f1, f2⟩ := (h.ext ((Ext.rfl' w).al (.cells #[.pointer (some ⟨g, 0, none⟩)] 54))).cells
  have t : (er != 0) = true := by simp [h0]
  have hmf := Try.mkfn
  go_enter_defers Try.func49, Try.ntmps49
  go_wp2
  simp [bodyPostD, Leaves, results, Try.results49]
  exact (Ext.rfl' w).al _

set_option maxRecDepth 100000 in
set_option maxHeartbeats 1000000 in
theorem read_ok (g : Nat) (s : List UInt8) (F : FuncId) (caps : Array Value) (w : World) (h : Rdr w g true s 0) (R : World → Prop)
    (hcf : ∀ W : World, (callFunc F caps).run Try.prog W = .ok (.enter F caps) W)
    (hp : ∀ W, Ext w W → Calls Try.prog F caps W fun e W' => e = .returned (.tuple #[]) ∧ R W') :
    Calls Try.prog 49 #[.pointer (some ⟨g, 0, none⟩), .func (.func F) #[] caps] w fun e w' => e = .returned (.tuple #[]) ∧ R w' := by
  have hg := h.lt
  obtain ⟨c0, c1, c2, f0, f1, f2⟩ := (h.ext ((Ext.rfl' w).al (.cells #[.pointer (some ⟨g, 0, none⟩)] 54))).cells
  have hmf := Try.mkfn
  have HP := Lib.hid hp; clear hp
  go_enter_defers Try.func49, Try.ntmps49
  go_wp2_with fail
  refine (HP.out _ ((Ext.rfl' w).al _)).mono ?_
  rintro e W' ⟨rfl, hR⟩
  go_wp2
  refine leaves_cons (f := 62) (args := #[.pointer (some ⟨w.heap.size, 0, none⟩)]) (by simp) (by simp [go_sem]) ?_
  refine (recover_idle ⟨w.heap.size, 0, none⟩ _).mono ?_
  rintro e u' w'' ⟨rfl, rfl, rfl⟩
  simp [Leaves, settle, results, Try.results49, hR]

set_option maxRecDepth 100000 in
set_option maxHeartbeats 1000000 in
theorem read_bad (g : Nat) (s : List UInt8) (x : Int) (F : FuncId) (caps : Array Value) (w : World) (h : Rdr w g true s 0) (hx : x ≠ 0)
    (hcf : ∀ W : World, (callFunc F caps).run Try.prog W = .ok (.enter F caps) W)
    (hp : ∀ W, Ext w W → Calls Try.prog F caps W fun e W' => e = .panicked [{ v := .iface 96 (.agg #[.int .i64 x]), recovered := false }] ∧ (∃ s', Rdr W' g true s' 0) ∧ Only g W W') :
    Calls Try.prog 49 #[.pointer (some ⟨g, 0, none⟩), .func (.func F) #[] caps] w fun e w' => e = .returned (.tuple #[]) ∧ Rdr w' g true [] x ∧ Only g w w' := by
  have hg := h.lt
  obtain ⟨c0, c1, c2, f0, f1, f2⟩ := (h.ext ((Ext.rfl' w).al (.cells #[.pointer (some ⟨g, 0, none⟩)] 54))).cells
  have hmf := Try.mkfn
  have HP := Lib.hid hp; clear hp
  go_enter_defers Try.func49, Try.ntmps49
  go_wp2_with fail
  refine (HP.out _ ((Ext.rfl' w).al _)).mono ?_
  rintro e W' ⟨rfl, ⟨s', hR⟩, hO⟩
  have hcell : W'.cell? ⟨w.heap.size, 0, none⟩ = some (.pointer (some ⟨g, 0, none⟩)) := by
    refine (World.cell?_of_block (w := w.alloc _) (a := ⟨w.heap.size, 0, none⟩) (hO.block w.heap.size (by simp) (by simp; omega))).trans ?_
    simp [go_sem]
  have hO' := (Only.of ((Ext.rfl' w).al (.cells #[.pointer (some ⟨g, 0, none⟩)] 54))).tr hO
  clear hO
  go_wp2
  refine leaves_cons (f := 62) (args := #[.pointer (some ⟨w.heap.size, 0, none⟩)]) (by simp) (by simp [go_sem]) ?_
  refine (recover_some w.heap.size g s' x W' hcell hR hx).mono ?_
  rintro e u' w'' ⟨rfl, rfl, hR2, hO2⟩
  simp [Leaves, settle, results, Try.results49]
  exact ⟨hR2, hO'.tr hO2⟩

end Go.Proofs.Ytjpcedgonjmchaa
