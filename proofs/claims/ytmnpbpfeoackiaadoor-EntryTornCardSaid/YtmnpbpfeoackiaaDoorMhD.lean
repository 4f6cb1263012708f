/-
  Package disk: the disk in the memory; small facts on it. Conditions: at most one crash. · Package disk: ready, Read, Blocks, Writes, Power, Write. Conditions: as Dk1. · Package disk: Write. Conditions: the power is on; the block is there and has 128 bytes. · Package disk: New, with no crash and with one. Conditions: 1 to 4096 blocks.
-/
import Derived.Test.YtmnpbpfeoackiaaDoorEnPlain
import Derived.Test.YtmnpbpfeoackiaaDoorArr
import Derived.Test.YtmnpbpfeoackiaaDoorOct
import Derived.Test.YtmnpbpfeoackiaaDoorGen
import Derived.MapKept
import Derived.Lib.BufferWrite
import Derived.Test.YtmnpbpfeoackiaaDoorInv2
import Derived.Lib.SliceRun
import Derived.Test.YtmnpbpfeoackiaaDoorMhF
namespace Go.Proofs.YtmnpbpfeoackiaaDoor
open Go.RowKit

/-! ### lists of blocks -/
theorem flat_len : ∀ {bs : List (List UInt8)}, (∀ b ∈ bs, b.length = 128) → bs.flatten.length = bs.length * 128
  | [], _ => rfl
  | b :: r, h => by
    rw [List.flatten_cons, List.length_append, flat_len (fun x hx => h x (List.mem_cons_of_mem _ hx)), h b List.mem_cons_self, List.length_cons]
    omega
theorem flat_drop : ∀ {bs : List (List UInt8)} (i : Nat), (∀ b ∈ bs, b.length = 128) → bs.flatten.drop (i * 128) = (bs.drop i).flatten
  | [], i, _ => by simp
  | b :: r, 0, _ => by simp
  | b :: r, i + 1, h => by
    have hb := h b List.mem_cons_self
    rw [List.flatten_cons, List.drop_append, List.drop_of_length_le (by omega), List.nil_append, hb, show (i + 1) * 128 - 128 = i * 128 by omega, flat_drop i (fun x hx => h x (List.mem_cons_of_mem _ hx))]
    rfl
theorem flat_take : ∀ {bs : List (List UInt8)} (i : Nat), (∀ b ∈ bs, b.length = 128) → bs.flatten.take (i * 128) = (bs.take i).flatten
  | [], i, _ => by simp
  | b :: r, 0, _ => by simp
  | b :: r, i + 1, h => by
    have hb := h b List.mem_cons_self
    rw [List.flatten_cons, List.take_append, List.take_of_length_le (by omega), hb, show (i + 1) * 128 - 128 = i * 128 by omega, flat_take i (fun x hx => h x (List.mem_cons_of_mem _ hx))]
    rfl
theorem flat_at {bs : List (List UInt8)} {i : Nat} (h : ∀ b ∈ bs, b.length = 128) (hi : i < bs.length) (j : Nat) (hj : j < 128) : bs.flatten[i * 128 + j]? = bs[i][j]? := by
  have e := flat_drop i h
  rw [List.drop_eq_getElem_cons hi, List.flatten_cons] at e
  have hb := h _ (List.getElem_mem hi)
  rw [← List.getElem?_drop, e, List.getElem?_append_left (by omega)]
theorem flat_set {bs : List (List UInt8)} {i : Nat} (h : ∀ b ∈ bs, b.length = 128) (hi : i < bs.length) {b : List UInt8} {k : Nat} (hk : k ≤ 128) (_hb : b.length = 128) :
    bs.flatten.take (i * 128) ++ b.take k ++ bs.flatten.drop (i * 128 + k) = (bs.set i (tornL b (bs.getD i []) k)).flatten := by
  have hx := h _ (List.getElem_mem hi)
  rw [flat_take i h, ← List.drop_drop, flat_drop i h, List.drop_eq_getElem_cons hi, List.flatten_cons, List.drop_append_of_le_length (by omega), List.set_eq_take_append_cons_drop, if_pos hi, List.flatten_append, List.flatten_cons]
  unfold tornL
  rw [List.getD_eq_getElem?_getD, List.getElem?_eq_getElem hi, Option.getD_some]
  simp only [List.append_assoc]
theorem torn_all {b old : List UInt8} (hb : b.length = 128) (ho : old.length = 128) : tornL b old 128 = b := by
  unfold tornL
  rw [List.take_of_length_le (by omega), List.drop_of_length_le (by omega), List.append_nil]
theorem set_128 {bs : List (List UInt8)} (h : ∀ b ∈ bs, b.length = 128) (i : Nat) {b : List UInt8} (hb : b.length = 128) : ∀ x ∈ bs.set i b, x.length = 128 := by
  intro x hx
  rcases List.mem_or_eq_of_mem_set hx with hx | rfl
  · exact h x hx
  · exact hb
theorem getD_128 {bs : List (List UInt8)} (h : ∀ b ∈ bs, b.length = 128) {i : Nat} (hi : i < bs.length) : (bs.getD i []).length = 128 := by
  rw [List.getD_eq_getElem?_getD, List.getElem?_eq_getElem hi, Option.getD_some]
  exact h _ (List.getElem_mem hi)

/-! ### the map of crashes -/
def crMap : Option (Int × Nat) → Array MapEntry
  | none => #[]
  | some (a, k) => #[{ key := .int .i64 a, val := .int .i64 k, born := 0 }]
def crClock : Option (Int × Nat) → Nat
  | none => 0
  | some _ => 1
/-- What the map holds at a number. -/
def crAt (c : Option (Int × Nat)) (n : Int) : Nat × Bool :=
  match c with
  | none => (0, false)
  | some (a, k) => if a = n then (k, true) else (0, false)
set_option maxRecDepth 100000 in
theorem run_crAt (c : Option (Int × Nat)) (n : Int) (m : Nat) (W : World) (h : W.heap[m]? = some (.map (crMap c) (crClock c))) :
    (Instr.lookup 114 (.map (some m)) (.int .i64 n) true).run Tryd.prog W = .ok (.tuple #[.int .i64 (crAt c n).1, .bool (crAt c n).2]) W := by
  have hk : Tryd.prog.underlying 3 = some (.int .i64) := Tryd.underlying3
  have hz : (zeroValue 3).run Tryd.prog W = .ok (.int .i64 0) W := by kernel_rfl
  have hc : ∀ e, (Instr.checkKey e 10000 3 (.int .i64 n)).run Tryd.prog W = .ok () W := fun e => MapKept.run_checkKey (k := .int .i64 n) hk (by simp [MapKept.IsKey]) e 9999
  cases c with
  | none =>
    have hf : Instr.findNow (.int .i64) (.int .i64 n) ([] : List MapEntry) 0 = some none := rfl
    simp [Instr.lookup, run_underlying Tryd.underlying114, MapKept.run_getObj_map h, hc, crMap, MapKept.run_findKey hk hf, Result.andThen, hz, crAt]
  | some x =>
    obtain ⟨a, k⟩ := x
    by_cases ha : a = n
    · subst ha
      have hf : Instr.findNow (.int .i64) (.int .i64 a) [({ key := .int .i64 a, val := .int .i64 k, born := 0 } : MapEntry)] 0 = some (some (0, .int .i64 k)) := by simp [Instr.findNow, Instr.sameNow]
      simp [Instr.lookup, run_underlying Tryd.underlying114, MapKept.run_getObj_map h, hc, crMap, MapKept.run_findKey hk hf, Result.andThen, crAt]
    · have hf : Instr.findNow (.int .i64) (.int .i64 n) [({ key := .int .i64 a, val := .int .i64 k, born := 0 } : MapEntry)] 0 = some none := by
        have hq : (n == a) = false := by simpa using fun e : n = a => ha e.symm
        simp [Instr.findNow, Instr.sameNow, hq]
      simp [Instr.lookup, run_underlying Tryd.underlying114, MapKept.run_getObj_map h, hc, crMap, MapKept.run_findKey hk hf, Result.andThen, hz, crAt, ha]

/-! ### the disk -/
def dkV (g m : Nat) (d : Dk) : List Value := [.slice (some ⟨g, 0, none⟩) d.bs.length d.bs.length, .map (some m), .int .i64 d.wr, .bool d.dn]
structure DkAt (w : World) (B p g m : Nat) (d : Dk) : Prop where
  box : Arr w p 116 (dkV g m d)
  row : Arr w g 126 (d.bs.flatten.map U8)
  cr : w.heap[m]? = some (.map (crMap d.cr) (crClock d.cr))
  all : ∀ b ∈ d.bs, b.length = 128
  keep : ∀ a k, d.cr = some (a, k) → k ≤ 128
  pB : B ≤ p
  gB : B ≤ g
  mB : B ≤ m
  pos : 0 < d.bs.length
  le : d.bs.length ≤ 4096
  wr : d.wr ≤ 1000000
/-- Only the disk's own blocks, and what is new, have turned. -/
structure Two (p g : Nat) (w w' : World) : Prop where
  os : w'.os = w.os
  tape : w'.tape = w.tape
  output : w'.output = w.output
  size : w.heap.size ≤ w'.heap.size
  block : ∀ k, k < w.heap.size → k ≠ p → k ≠ g → w'.heap[k]? = w.heap[k]?
theorem Two.rfl' (p g : Nat) (w : World) : Two p g w w := ⟨rfl, rfl, rfl, Nat.le_refl _, fun _ _ _ _ => rfl⟩
theorem Two.tr {p g : Nat} {a b c : World} (h : Two p g a b) (k : Two p g b c) : Two p g a c :=
  ⟨k.os.trans h.os, k.tape.trans h.tape, k.output.trans h.output, Nat.le_trans h.size k.size, fun i hi h1 h2 => (k.block i (Nat.lt_of_lt_of_le hi h.size) h1 h2).trans (h.block i hi h1 h2)⟩
theorem Two.of {p g : Nat} {a b : World} (k : Ext a b) : Two p g a b := ⟨k.os, k.tape, k.output, k.size, fun i hi _ _ => k.block i hi⟩
theorem Two.ext {p g : Nat} {a b c : World} (h : Two p g a b) (k : Ext b c) : Two p g a c := h.tr (.of k)
theorem Two.fst {p g : Nat} {a b : World} (h : Two p g a b) (i : Nat) (u : Value) : Two p g a (b.setCell ⟨p, i, none⟩ u) :=
  ⟨h.os, h.tape, h.output, by simpa [World.setCell] using h.size, fun k hk h1 h2 => (Below.heap_setCell b ⟨p, i, none⟩ u k (fun e => h1 e)).trans (h.block k hk h1 h2)⟩
theorem Two.row {p g : Nat} {a b : World} (h : Two p g a b) (ys : Array Value) : Two p g a (b.setRow g ys) :=
  ⟨h.os, h.tape, h.output, by simpa [World.setRow] using h.size, fun k hk h1 h2 => (setRow_other b g k ys h2).trans (h.block k hk h1 h2)⟩
theorem Two.toExt {p g : Nat} {w a b : World} (h : Two p g a b) (hE : Ext w a) (hp : w.heap.size ≤ p) (hg : w.heap.size ≤ g) : Ext w b :=
  ⟨h.os.trans hE.os, h.tape.trans hE.tape, h.output.trans hE.output, Nat.le_trans hE.size h.size, fun k hk => (h.block k (Nat.lt_of_lt_of_le hk hE.size) (by omega) (by omega)).trans (hE.block k hk)⟩
theorem Two.arr {p g k : Nat} {a b : World} {t : TypeId} {xs : List Value} (h : Two p g a b) (hA : Arr a k t xs) (h1 : k ≠ p) (h2 : k ≠ g) : Arr b k t xs := (h.block k hA.lt h1 h2).trans hA
section
variable {w w' : World} {B p g m : Nat} {d : Dk}
theorem DkAt.mlt (h : DkAt w B p g m d) : m < w.heap.size := (Array.getElem?_eq_some_iff.1 h.cr).1
theorem DkAt.pg (h : DkAt w B p g m d) : p ≠ g := by
  intro e
  have h1 := h.box
  have h2 := h.row
  unfold Arr at h1 h2
  rw [e, h2] at h1
  injection h1 with h1
  injection h1 with _ h1 _
  exact absurd h1 (by decide)
theorem DkAt.pm (h : DkAt w B p g m d) : m ≠ p ∧ m ≠ g := by
  have h1 := h.box
  have h2 := h.row
  have h3 := h.cr
  unfold Arr at h1 h2
  constructor
  · intro e
    rw [e, h1] at h3
    cases h3
  · intro e
    rw [e, h2] at h3
    cases h3
theorem DkAt.ext (h : DkAt w B p g m d) (e : Ext w w') : DkAt w' B p g m d :=
  ⟨h.box.ext e h.box.lt, h.row.ext e h.row.lt, (e.block m h.mlt).trans h.cr, h.all, h.keep, h.pB, h.gB, h.mB, h.pos, h.le, h.wr⟩
theorem DkAt.cells (h : DkAt w B p g m d) : w.cell? ⟨p, 0, none⟩ = some (.slice (some ⟨g, 0, none⟩) d.bs.length d.bs.length) ∧ w.cell? ⟨p, 1, none⟩ = some (.map (some m)) ∧ w.cell? ⟨p, 2, none⟩ = some (.int .i64 d.wr) ∧ w.cell? ⟨p, 3, none⟩ = some (.bool d.dn) ∧ (∀ i, w.frozen? ⟨p, i, none⟩ = false) :=
  ⟨h.box.cell 0, h.box.cell 1, h.box.cell 2, h.box.cell 3, fun i => h.box.frozen i⟩
/-- The number of writes is turned. -/
theorem DkAt.setWr (h : DkAt w B p g m d) (n : Nat) (hn : n ≤ 1000000) : DkAt (w.setCell ⟨p, 2, none⟩ (.int .i64 n)) B p g m ⟨d.bs, d.cr, n, d.dn⟩ :=
  ⟨h.box.set 2 _, h.row.other _ (Ne.symm h.pg), (heap_setCell_other w ⟨p, 2, none⟩ m _ h.pm.1).trans h.cr, h.all, h.keep, h.pB, h.gB, h.mB, h.pos, h.le, hn⟩
theorem DkAt.setDn (h : DkAt w B p g m d) (b : Bool) : DkAt (w.setCell ⟨p, 3, none⟩ (.bool b)) B p g m ⟨d.bs, d.cr, d.wr, b⟩ :=
  ⟨h.box.set 3 _, h.row.other _ (Ne.symm h.pg), (heap_setCell_other w ⟨p, 3, none⟩ m _ h.pm.1).trans h.cr, h.all, h.keep, h.pB, h.gB, h.mB, h.pos, h.le, h.wr⟩
theorem DkAt.setBs (h : DkAt w B p g m d) (bs : List (List UInt8)) (hl : bs.length = d.bs.length) (ha : ∀ b ∈ bs, b.length = 128) : DkAt (w.setRow g (bs.flatten.map U8).toArray) B p g m ⟨bs, d.cr, d.wr, d.dn⟩ := by
  have hb := h.box.rowOther (bs.flatten.map U8).toArray h.pg
  refine ⟨?_, h.row.row _, (setRow_other w g m _ h.pm.2).trans h.cr, ha, h.keep, h.pB, h.gB, h.mB, by rw [hl]; exact h.pos, by rw [hl]; exact h.le, h.wr⟩
  unfold dkV at hb ⊢
  dsimp only at hb ⊢
  rw [hl]
  exact hb
end

/-- copy(dst, s): as many bytes of a string as fit. -/
theorem run_copy_str {P : Program} (w : World) (dT sT ty elem : TypeId) (g o dLen dCap : Nat) (s : List UInt8) (cur : List Value) (t : TypeId)
    (hu : P.underlying dT = some (.slice elem)) (hs : (P.info? elem).map (·.size) = some 1) (hg : w.heap[g]? = some (.cells cur.toArray t (0, 0))) (hle : dLen ≤ s.length) (hfit : o + dLen ≤ cur.length) :
    (Builtin.copy_ #[dT, sT] ty #[.slice (some ⟨g, o, none⟩) dLen dCap, .string (ofL s)]).run P w =
      .ok (goInt dLen) (w.setRow g (cur.take o ++ (s.take dLen).map U8 ++ cur.drop (o + dLen)).toArray) := by
  have hlen : ((s.take dLen).map U8).length = dLen := by rw [List.length_map, List.length_take]; omega
  have hst := run_storeCells_at P g o t ((s.take dLen).map U8) 0 cur.toArray w hg (by rw [hlen]; simpa using hfit) (oneCell_u8 _)
  have hsz : (ofL s).size = s.length := size_ofL s
  have hmin : Nat.min s.length dLen = dLen := Nat.min_eq_right hle
  have htk : List.take dLen (List.map (fun b : UInt8 => Value.int IntKind.u8 (b.toNat : Int)) (ofL s).data.toList) = (s.take dLen).map U8 := by
    rw [← List.map_take]
    show List.map _ (List.take dLen (toL (ofL s))) = _
    rw [toL_ofL]
    rfl
  rw [hlen] at hst
  simp only [Nat.add_zero] at hst
  cases hq : P.info? elem with
  | none => simp [hq] at hs
  | some i =>
    simp [Builtin.copy_, run_underlying hu, Builtin.lenOf, Builtin.firstCells, sizeOf, typeInfo, hq, hsz, hmin]
    rw [htk, hst]
    simp [Result.andThen]
end Go.Proofs.YtmnpbpfeoackiaaDoor

namespace Go.Proofs.YtmnpbpfeoackiaaDoor
open Go.RowKit

section
variable {w : World} {B p g m : Nat} {d : Dk}
def rdyN (d : Dk) (i : Int) : Nat := if d.dn = true then 20 else if i < 0 ∨ (d.bs.length : Int) ≤ i then 7 else 0
set_option maxRecDepth 100000 in
theorem dready_any (h : DkAt w B p g m d) (i : Int) : Calls Tryd.prog 82 #[.pointer (some ⟨p, 0, none⟩), .int .i64 i] w fun e w' => e = .returned (.int .i64 (rdyN d i)) ∧ w' = w := by
  obtain ⟨k0, k1, k2, k3, -⟩ := h.cells
  have hp := h.pos
  obtain ⟨n, hn⟩ : ∃ n, d.bs.length = n := ⟨_, rfl⟩
  have heq : ∀ W : World, (binOp .eql 113 (.slice (some ⟨g, 0, none⟩) n n) (.slice none 0 0)).run Tryd.prog W = .ok (.bool false) W := fun W => Lib.run_eql_slice_nil W _ _ _ _ _ _ _ Tryd.underlying113
  unfold rdyN
  rw [hn] at k0 hp ⊢
  cases hd : d.dn with
  | true =>
    rw [hd] at k3
    clear h hn hd
    go_enter Tryd.func82, Tryd.ntmps82
    go_wp2
    go_ret
    exact ⟨rfl, rfl⟩
  | false =>
    rw [hd] at k3
    rw [if_neg (by decide)]
    by_cases h1 : i < 0
    · have d1 : decide (i < 0) = true := by simp; omega
      rw [if_pos (.inl h1)]
      clear h hn hd h1
      go_enter Tryd.func82, Tryd.ntmps82
      go_wp2
      go_ret
      exact ⟨rfl, rfl⟩
    · have d1 : decide (i < 0) = false := by simp; omega
      by_cases h2 : (n : Int) ≤ i
      · have d2 : decide ((n : Int) ≤ i) = true := by simp; omega
        rw [if_pos (.inr h2)]
        clear h hn hd h1 h2
        go_enter Tryd.func82, Tryd.ntmps82
        go_wp2
        go_ret
        exact ⟨rfl, rfl⟩
      · have d2 : decide ((n : Int) ≤ i) = false := by simp; omega
        rw [if_neg (by omega)]
        clear h hn hd h1 h2
        go_enter Tryd.func82, Tryd.ntmps82
        go_wp2
        go_ret
        exact ⟨rfl, rfl⟩
set_option maxRecDepth 100000 in
theorem dblocks_any (h : DkAt w B p g m d) : Calls Tryd.prog 77 #[.pointer (some ⟨p, 0, none⟩)] w fun e w' => e = .returned (.int .i64 d.bs.length) ∧ w' = w := by
  obtain ⟨k0, k1, k2, k3, -⟩ := h.cells
  clear h
  go_enter Tryd.func77, Tryd.ntmps77
  go_wp2
  go_ret
  exact ⟨rfl, rfl⟩
set_option maxRecDepth 100000 in
theorem dblocks_nil (w : World) : Calls Tryd.prog 77 #[.pointer none] w fun e w' => e = .returned (.int .i64 0) ∧ w' = w := by
  go_enter Tryd.func77, Tryd.ntmps77
  go_wp2
  go_ret
  exact ⟨rfl, rfl⟩
set_option maxRecDepth 100000 in
theorem dwrites_any (h : DkAt w B p g m d) : Calls Tryd.prog 41 #[.pointer (some ⟨p, 0, none⟩)] w fun e w' => e = .returned (.int .i64 d.wr) ∧ w' = w := by
  obtain ⟨k0, k1, k2, k3, -⟩ := h.cells
  clear h
  go_enter Tryd.func41, Tryd.ntmps41
  go_wp2
  go_ret
  exact ⟨rfl, rfl⟩
set_option maxRecDepth 100000 in
theorem dpower_any (h : DkAt w B p g m d) : Calls Tryd.prog 43 #[.pointer (some ⟨p, 0, none⟩)] w fun e w' => e = .returned (.tuple #[]) ∧ DkAt w' B p g m ⟨d.bs, d.cr, d.wr, false⟩ ∧ Two p g w w' := by
  obtain ⟨k0, k1, k2, k3, kf⟩ := h.cells
  have f3 := kf 3
  have h' := h.setDn false
  clear h
  go_enter Tryd.func43, Tryd.ntmps43
  go_wp2
  go_end0
  exact ⟨rfl, h', (Two.rfl' _ _ _).fst _ _⟩

/-- The cells of a block. -/
theorem DkAt.blk (h : DkAt w B p g m d) {i : Nat} (hi : i < d.bs.length) : ∀ j u, ((d.bs[i]).map U8)[j]? = some u → w.cell? ((⟨g, i * 128, none⟩ : Addr).add j) = some u := by
  intro j u hu
  have hb := h.all _ (List.getElem_mem hi)
  have hj : j < 128 := by
    have := (List.getElem?_eq_some_iff.1 hu).1
    rw [List.length_map] at this
    omega
  rw [WideShapes.add_plain, h.row.cell, List.getElem?_map, flat_at h.all hi j hj, ← List.getElem?_map]
  exact hu
set_option maxRecDepth 100000 in
theorem dread_ok (h : DkAt w B p g m d) (hd : d.dn = false) {i : Nat} (hi : i < d.bs.length) : Calls Tryd.prog 78 #[.pointer (some ⟨p, 0, none⟩), .int .i64 i] w fun e w' => e = .returned (.tuple #[.string (ofL d.bs[i]), .int .i64 0]) ∧ Ext w w' := by
  obtain ⟨k0, k1, k2, k3, -⟩ := h.cells
  have hle := h.le
  have cR := Kp.mk (show Calls Tryd.prog 82 #[.pointer (some ⟨p, 0, none⟩), .int .i64 i] w fun e w' => e = .returned (.int .i64 0) ∧ w' = w from by
    have q := dready_any h i
    unfold rdyN at q
    rw [hd, if_neg (by decide), if_neg (by omega)] at q
    exact q)
  have hS : (convert 56 9 (.slice (some ⟨g, i * 128, none⟩) 128 128)).run Tryd.prog w = .ok (.string (ofL d.bs[i])) w :=
    run_str_cells w _ _ _ Tryd.underlying56 Tryd.underlying5 Tryd.underlying9 ⟨g, i * 128, none⟩ 128 128 d.bs[i] (h.all _ (List.getElem_mem hi)) (h.blk hi)
  obtain ⟨n, hn⟩ : ∃ n, d.bs.length = n := ⟨_, rfl⟩
  obtain ⟨x, hx⟩ : ∃ x, d.bs[i] = x := ⟨_, rfl⟩
  rw [hx] at hS ⊢
  rw [hn] at k0
  have hlt : i < n := by omega
  clear h hn hx hi hd
  go_enter Tryd.func78, Tryd.ntmps78
  go_wp2_with fail
  refine cR.out.mono ?_
  rintro e w1 ⟨rfl, rfl⟩
  go_wp2
  go_ret2
  exact ⟨rfl, Ext.rfl' _⟩
set_option maxRecDepth 100000 in
theorem dread_bad (h : DkAt w B p g m d) (hd : d.dn = false) {i : Int} (hi : i < 0 ∨ (d.bs.length : Int) ≤ i) : Calls Tryd.prog 78 #[.pointer (some ⟨p, 0, none⟩), .int .i64 i] w fun e w' => e = .returned (.tuple #[.string ⟨#[]⟩, .int .i64 7]) ∧ Ext w w' := by
  have cR := Kp.mk (show Calls Tryd.prog 82 #[.pointer (some ⟨p, 0, none⟩), .int .i64 i] w fun e w' => e = .returned (.int .i64 7) ∧ w' = w from by
    have q := dready_any h i
    unfold rdyN at q
    rw [hd, if_neg (by decide), if_pos hi] at q
    exact q)
  clear h hi hd
  go_enter Tryd.func78, Tryd.ntmps78
  go_wp2_with fail
  refine cR.out.mono ?_
  rintro e w1 ⟨rfl, rfl⟩
  go_wp2
  go_ret2
  exact ⟨rfl, Ext.rfl' _⟩
end
end Go.Proofs.YtmnpbpfeoackiaaDoor

namespace Go.Proofs.YtmnpbpfeoackiaaDoor
open Go.RowKit

section
variable {w : World} {B p g m : Nat} {d : Dk}
theorem put_crash {i : Nat} {b : List UInt8} {k : Nat} (hd : d.dn = false) (h : crAt d.cr d.wr = (k, true)) : d.put i b = (⟨d.bs.set i (tornL b (d.bs.getD i []) k), d.cr, d.wr + 1, true⟩, 20) := by
  unfold Dk.put
  rw [hd, if_neg (by decide)]
  unfold crAt at h
  cases hc : d.cr with
  | none => rw [hc] at h; cases h
  | some x =>
    obtain ⟨a, kk⟩ := x
    rw [hc] at h
    dsimp only at h ⊢
    by_cases ha : a = d.wr
    · rw [if_pos ha] at h ⊢
      cases h
      rfl
    · rw [if_neg ha] at h
      cases h
theorem put_ok {i : Nat} {b : List UInt8} {k : Nat} (hd : d.dn = false) (h : crAt d.cr d.wr = (k, false)) : d.put i b = (⟨d.bs.set i b, d.cr, d.wr + 1, false⟩, 0) := by
  unfold Dk.put
  rw [hd, if_neg (by decide)]
  unfold crAt at h
  cases hc : d.cr with
  | none => rfl
  | some x =>
    obtain ⟨a, kk⟩ := x
    rw [hc] at h
    dsimp only at h ⊢
    by_cases ha : a = d.wr
    · rw [if_pos ha] at h
      cases h
    · rw [if_neg ha]
theorem crAt_le (h : DkAt w B p g m d) (n : Int) : (crAt d.cr n).1 ≤ 128 := by
  unfold crAt
  cases hc : d.cr with
  | none => simp
  | some x =>
    obtain ⟨a, kk⟩ := x
    have := h.keep a kk hc
    dsimp only
    split
    · exact this
    · simp
/-- A block is written, as many bytes of it as are kept. -/
theorem DkAt.write (h : DkAt w B p g m d) {i : Nat} (hi : i < d.bs.length) {b : List UInt8} (hb : b.length = 128) {k : Nat} (hk : k ≤ 128) (ty : TypeId) :
    (Builtin.copy_ #[56, 9] ty #[.slice (some ⟨g, i * 128, none⟩) k 128, .string (ofL b)]).run Tryd.prog w =
      .ok (.int .i64 k) (w.setRow g ((d.bs.set i (tornL b (d.bs.getD i []) k)).flatten.map U8).toArray) := by
  have hle : i * 128 + 128 ≤ d.bs.flatten.length := by rw [flat_len h.all]; omega
  have q := run_copy_str w 56 9 ty 5 g (i * 128) k 128 b (d.bs.flatten.map U8) 126 Tryd.underlying56 (by kernel_rfl) h.row (by omega) (by rw [List.length_map]; omega)
  rw [← flat_set h.all hi hk hb]
  rw [List.map_append, List.map_append, List.map_take, List.map_drop]
  exact q
set_option maxRecDepth 100000 in
theorem dwrite_any (h : DkAt w B p g m d) (hd : d.dn = false) {i : Nat} (hi : i < d.bs.length) {b : List UInt8} (hb : b.length = 128) (hw : d.wr < 1000000) :
    Calls Tryd.prog 38 #[.pointer (some ⟨p, 0, none⟩), .int .i64 i, .string (ofL b)] w fun e w' => e = .returned (.int .i64 (d.put i b).2) ∧ DkAt w' B p g m (d.put i b).1 ∧ Two p g w w' := by
  obtain ⟨k0, k1, k2, k3, kf⟩ := h.cells
  have hle := h.le
  have cR := Kp.mk (show Calls Tryd.prog 82 #[.pointer (some ⟨p, 0, none⟩), .int .i64 i] w fun e w' => e = .returned (.int .i64 0) ∧ w' = w from by
    have q := dready_any h i
    unfold rdyN at q
    rw [hd, if_neg (by decide), if_neg (by omega)] at q
    exact q)
  have hsz : (ofL b).size = 128 := by rw [size_ofL, hb]
  have hlk : ∀ W : World, Ext w W → (Instr.lookup 114 (.map (some m)) (.int .i64 d.wr) true).run Tryd.prog W = .ok (.tuple #[.int .i64 (crAt d.cr d.wr).1, .bool (crAt d.cr d.wr).2]) W := fun W hW => run_crAt _ _ _ W (h.ext hW).cr
  obtain ⟨n, hn⟩ : ∃ n, d.bs.length = n := ⟨_, rfl⟩
  rw [hn] at k0
  have hlt : i < n := by omega
  have hkk := crAt_le h d.wr
  obtain ⟨⟨kp, cb⟩, hcr⟩ : ∃ c, crAt d.cr d.wr = c := ⟨_, rfl⟩
  rw [hcr] at hlk hkk
  dsimp only at hlk hkk
  have HH := Kp.mk h; have HCR := Kp.mk hcr; have HB := Kp.mk hb; have HD := Kp.mk hd
  clear h hn hd hb hcr
  go_enter Tryd.func38, Tryd.ntmps38
  go_wp2_with fail
  refine cR.out.mono ?_
  rintro e w ⟨rfl, rfl⟩
  go_upto_region 6 with fail
  refine wp_region_stageE [] (fun bs W => Ext w W) (fun bs i v W => match i with
    | 0 => v = .pointer (some ⟨p, 0, none⟩)
    | 1 => v = .pointer (some ⟨p, 0, none⟩)
    | 2 => v = .pointer (some ⟨p, 1, none⟩)
    | 3 => v = .map (some m)
    | 4 => v = .pointer (some ⟨p, 0, none⟩)
    | 5 => v = .pointer (some ⟨p, 0, none⟩)
    | 6 => v = .pointer (some ⟨p, 2, none⟩)
    | 7 => v = .int .i64 d.wr
    | 8 => v = .tuple #[.int .i64 kp, .bool cb]
    | 9 => v = .tuple #[.int .i64 kp, .bool cb]
    | 10 => v = .int .i64 kp
    | 11 => v = .bool cb
    | 12 => v = .int .i64 kp
    | 13 => v = .bool cb
    | _ => True) (cs_inj (by decide)) (by decide) (by kernel_rfl) (by kernel_rfl) (by kernel_rfl) (by kernel_rfl) ((Ext.rfl' w).dr) (fun bs W1 W2 h e => h.tr e) ?_ ?_ ?_
  · intro bs i v W1 W2 e1 e2 h
    match i, h with
    | 0, h => exact h
    | 1, h => exact h
    | 2, h => exact h
    | 3, h => exact h
    | 4, h => exact h
    | 5, h => exact h
    | 6, h => exact h
    | 7, h => exact h
    | 8, h => exact h
    | 9, h => exact h
    | 10, h => exact h
    | 11, h => exact h
    | 12, h => exact h
    | 13, h => exact h
    | (i + 14), h => exact h
  · intro HF
    refine localsQ_ord (by decide) (fun bs u W hbs hW hno hd => ?_) ?_
    · refine opLeaves_ev HF rfl fun ev zc zg zf zt => ?_
      have t0 : ev (.tmp 0) = .pointer (some ⟨p, 0, none⟩) := zt 0
      clear zt
      exact ev_val (v := .pointer (some ⟨p, 0, none⟩)) (by go_simp) rfl
    refine localsQ_ord (by decide) (fun bs u W hbs hW hno hd => ?_) ?_
    · refine opLeaves_ev HF rfl fun ev zc zg zf zt => ?_
      have t20 : ev (.tmp 20) = u 0 := zt 20
      clear zt
      have h0 : u 0 = _ := hd 0 (by kernel_rfl)
      exact ev_val (v := .pointer (some ⟨p, 0, none⟩)) (by go_simp) rfl
    refine localsQ_ord (by decide) (fun bs u W hbs hW hno hd => ?_) ?_
    · refine opLeaves_ev HF rfl fun ev zc zg zf zt => ?_
      have t21 : ev (.tmp 21) = u 1 := zt 21
      clear zt
      have h1 : u 1 = _ := hd 1 (by kernel_rfl)
      exact ev_val (v := .pointer (some ⟨p, 1, none⟩)) (by go_simp) rfl
    refine localsQ_ord (by decide) (fun bs u W hbs hW hno hd => ?_) ?_
    · refine opLeaves_ev HF rfl fun ev zc zg zf zt => ?_
      have t22 : ev (.tmp 22) = u 2 := zt 22
      clear zt
      have h2 : u 2 = _ := hd 2 (by kernel_rfl)
      have k1 := (HH.out.ext hW).cells.2.1
      exact ev_val (v := .map (some m)) (by go_simp) rfl
    refine localsQ_ord (by decide) (fun bs u W hbs hW hno hd => ?_) ?_
    · refine opLeaves_ev HF rfl fun ev zc zg zf zt => ?_
      have t0 : ev (.tmp 0) = .pointer (some ⟨p, 0, none⟩) := zt 0
      clear zt
      exact ev_val (v := .pointer (some ⟨p, 0, none⟩)) (by go_simp) rfl
    refine localsQ_ord (by decide) (fun bs u W hbs hW hno hd => ?_) ?_
    · refine opLeaves_ev HF rfl fun ev zc zg zf zt => ?_
      have t24 : ev (.tmp 24) = u 4 := zt 24
      clear zt
      have h4 : u 4 = _ := hd 4 (by kernel_rfl)
      exact ev_val (v := .pointer (some ⟨p, 0, none⟩)) (by go_simp) rfl
    refine localsQ_ord (by decide) (fun bs u W hbs hW hno hd => ?_) ?_
    · refine opLeaves_ev HF rfl fun ev zc zg zf zt => ?_
      have t25 : ev (.tmp 25) = u 5 := zt 25
      clear zt
      have h5 : u 5 = _ := hd 5 (by kernel_rfl)
      exact ev_val (v := .pointer (some ⟨p, 2, none⟩)) (by go_simp) rfl
    refine localsQ_ord (by decide) (fun bs u W hbs hW hno hd => ?_) ?_
    · refine opLeaves_ev HF rfl fun ev zc zg zf zt => ?_
      have t26 : ev (.tmp 26) = u 6 := zt 26
      clear zt
      have h6 : u 6 = _ := hd 6 (by kernel_rfl)
      have k2 := (HH.out.ext hW).cells.2.2.1
      exact ev_val (v := .int .i64 d.wr) (by go_simp) rfl
    refine localsQ_ord (by decide) (fun bs u W hbs hW hno hd => ?_) ?_
    · refine opLeaves_ev HF rfl fun ev zc zg zf zt => ?_
      have t23 : ev (.tmp 23) = u 3 := zt 23
      have t27 : ev (.tmp 27) = u 7 := zt 27
      clear zt
      have h3 : u 3 = _ := hd 3 (by kernel_rfl)
      have h7 : u 7 = _ := hd 7 (by kernel_rfl)
      have hl := hlk W hW
      exact ev_val (v := .tuple #[.int .i64 kp, .bool cb]) (by go_simp) rfl
    refine localsQ_ord (by decide) (fun bs u W hbs hW hno hd => ?_) ?_
    · refine opLeaves_ev HF rfl fun ev zc zg zf zt => ?_
      have t28 : ev (.tmp 28) = u 8 := zt 28
      clear zt
      have h8 : u 8 = _ := hd 8 (by kernel_rfl)
      exact ev_val (v := .tuple #[.int .i64 kp, .bool cb]) (by go_simp) rfl
    refine localsQ_ord (by decide) (fun bs u W hbs hW hno hd => ?_) ?_
    · refine opLeaves_ev HF rfl fun ev zc zg zf zt => ?_
      have t19 : ev (.tmp 19) = u 9 := zt 19
      clear zt
      have h9 : u 9 = _ := hd 9 (by kernel_rfl)
      exact ev_val (v := .int .i64 kp) (by go_simp) rfl
    refine localsQ_ord (by decide) (fun bs u W hbs hW hno hd => ?_) ?_
    · refine opLeaves_ev HF rfl fun ev zc zg zf zt => ?_
      have t19 : ev (.tmp 19) = u 9 := zt 19
      clear zt
      have h9 : u 9 = _ := hd 9 (by kernel_rfl)
      exact ev_val (v := .bool cb) (by go_simp) rfl
    refine localsQ_ord (by decide) (fun bs u W hbs hW hno hd => ?_) ?_
    · refine opLeaves_ev HF rfl fun ev zc zg zf zt => ?_
      have t29 : ev (.tmp 29) = u 10 := zt 29
      clear zt
      have h10 : u 10 = _ := hd 10 (by kernel_rfl)
      exact ev_val (v := .int .i64 kp) (by go_simp) rfl
    refine localsQ_ord (by decide) (fun bs u W hbs hW hno hd => ?_) localsQ_nil
    · refine opLeaves_ev HF rfl fun ev zc zg zf zt => ?_
      have t30 : ev (.tmp 30) = u 11 := zt 30
      clear zt
      have h11 : u 11 = _ := hd 11 (by kernel_rfl)
      exact ev_val (v := .bool cb) (by go_simp) rfl
  · intro u6 W6 hW6 hV
    have h12 : u6 12 = _ := hV 12 (by decide)
    have h13 : u6 13 = _ := hV 13 (by decide)
    have h6 := HH.out.ext hW6
    have T6 := (Two.rfl' p g w).ext hW6
    clear hV hW6 k0 k1 k2 k3 kf hlk HH
    obtain ⟨k0, k1, k2, k3, kf⟩ := h6.cells
    have f2 := kf 2
    go_simp
    go_upto_region 8 with fail
    obtain ⟨W8, hW8⟩ : ∃ W8 : World, W8 = W6.setCell ⟨p, 2, none⟩ (.int .i64 ((d.wr : Int) + 1)) := ⟨_, rfl⟩
    have h8 : DkAt W8 B p g m ⟨d.bs, d.cr, d.wr + 1, d.dn⟩ := by rw [hW8]; exact h6.setWr (d.wr + 1) (by omega)
    have T8 : Two p g w W8 := by rw [hW8]; exact T6.fst _ _
    rw [← hW8]
    clear hW8 h6 T6 k0 k1 k2 k3 kf f2
    obtain ⟨k0, k1, k2, k3, kf⟩ := h8.cells
    obtain ⟨n, hn⟩ : ∃ n, d.bs.length = n := ⟨_, rfl⟩
    dsimp only at k0
    rw [hn] at k0
    have hlt : i < n := by omega
    cases cb with
    | true =>
      obtain ⟨W9, hW9⟩ : ∃ W9 : World, W9 = W8.setRow g ((d.bs.set i (tornL b (d.bs.getD i []) kp)).flatten.map U8).toArray := ⟨_, rfl⟩
      have HX := Kp.mk (show ∀ ty, (Builtin.copy_ #[56, 9] ty #[.slice (some ⟨g, i * 128, none⟩) kp 128, .string (ofL b)]).run Tryd.prog W8 = .ok (.int .i64 kp) W9 from fun ty => by rw [hW9]; exact h8.write hi HB.out hkk ty)
      have h9 : DkAt W9 B p g m ⟨d.bs.set i (tornL b (d.bs.getD i []) kp), d.cr, d.wr + 1, d.dn⟩ := by
        rw [hW9]
        exact h8.setBs _ (List.length_set ..) (set_128 h8.all i (torn_len HB.out (getD_128 h8.all hi) hkk))
      have T9 : Two p g w W9 := by rw [hW9]; exact T8.row _
      have h10 := h9.setDn true
      have kk := h9.cells
      have f3 := kk.2.2.2.2 3
      have kk3 := kk.2.2.2.1
      clear hW9 h8 h9 T8 kk hn HB
      dsimp only at kk3
      have hl : Tryd.prog.arrayLen 126 = 128 := by kernel_rfl
      have hx := HX.out
      have hle3 : (kp : Int) ≤ Tryd.prog.arrayLen 126 := by rw [hl]; omega
      have hsl : (Instr.sliceAt 126 (.pointer (some ⟨g, i * 128, none⟩)) none (some (.int .i64 kp)) none).run Tryd.prog W8 = .ok (.slice (some ⟨g, i * 128, none⟩) kp 128) W8 := by
        have hel : Tryd.prog.elem 126 = 5 := by kernel_rfl
        have hul : Tryd.prog.underlying 126 = some (.array (Tryd.prog.arrayLen 126) (Tryd.prog.elem 126)) := by rw [hl, hel]; exact Tryd.underlying126
        have h1 : (sizeOf 5).run Tryd.prog W8 = .ok 1 W8 := by kernel_rfl
        rw [run_sliceAt_array_h W8 126 ⟨g, i * 128, none⟩ hul .i64 kp (by omega) hle3, hl, hel, h1]
        simp [slicedAt, Result.andThen, Addr.add]
      clear HX hl hle3
      go_wp2
      go_ret
      rw [put_crash HD.out HCR.out]
      exact ⟨rfl, h10, T9.fst _ _⟩
    | false =>
      have hT := torn_all HB.out (getD_128 h8.all hi)
      obtain ⟨W9, hW9⟩ : ∃ W9 : World, W9 = W8.setRow g ((d.bs.set i b).flatten.map U8).toArray := ⟨_, rfl⟩
      have HX := Kp.mk (show ∀ ty, (Builtin.copy_ #[56, 9] ty #[.slice (some ⟨g, i * 128, none⟩) 128 128, .string (ofL b)]).run Tryd.prog W8 = .ok (.int .i64 128) W9 from fun ty => by
        have q := h8.write hi HB.out (Nat.le_refl 128) ty
        rw [hT] at q
        rw [hW9]
        exact q)
      have h9 : DkAt W9 B p g m ⟨d.bs.set i b, d.cr, d.wr + 1, d.dn⟩ := by
        rw [hW9]
        exact h8.setBs _ (List.length_set ..) (set_128 h8.all i HB.out)
      have T9 : Two p g w W9 := by rw [hW9]; exact T8.row _
      have hd0 := HD.out
      rw [hd0] at h9
      clear hW9 h8 T8 hn HB hT hd0
      have hx := HX.out
      clear HX
      go_wp2
      go_ret
      rw [put_ok HD.out HCR.out]
      exact ⟨rfl, h9, T9⟩
end
end Go.Proofs.YtmnpbpfeoackiaaDoor

namespace Go.Proofs.YtmnpbpfeoackiaaDoor
open Go.RowKit

theorem made_same (v : Value) (k m : Nat) (h : 0 < k) : (madeCells (List.replicate k v).toArray m).toList = List.replicate m v := by
  apply List.ext_getElem?
  intro j
  by_cases hj : j < m
  · have hm : j % k < k := Nat.mod_lt _ h
    simp [madeCells, hj, hm]
  · simp [madeCells, hj]
def dk0 (n : Nat) (c : Option (Int × Nat)) : Dk := ⟨List.replicate n (List.replicate 128 0), c, 0, false⟩
theorem flat0 (n : Nat) : ((List.replicate n (List.replicate 128 (0 : UInt8))).flatten.map U8) = List.replicate (n * 128) (.int .u8 0) := by
  rw [List.flatten_replicate_replicate, List.map_replicate]
  rfl
set_option maxRecDepth 100000 in
theorem blk_info : (Tryd.prog.info? 126).map (fun i => (i.zero.map (fun z => z.cells), i.size, i.bytes)) = some (some (List.replicate 128 (.int .u8 0)).toArray, 128, 128) := by kernel_rfl
/-- make([][128]byte, n) -/
theorem wpl_blocks {w : World} {ops : Array Oper} {rest : List Oper} {o : Oper} {a : Act} {Q : Exit → Act → World → Prop} (hgd : o.guard = none) (l c : Operand) (hop : o.op = Op.makeSlice 113 l c) (n : Nat) (hl : a.eval l = .int .i64 n) (hc : a.eval c = .int .i64 n) (hn : n ≤ 4096)
    (hK : ∀ w', Arr w' w.heap.size 126 (List.replicate (n * 128) (.int .u8 0)) → Ext w w' → wpList Tryd.prog ops Q rest (a.put o.dst (.slice (some ⟨w.heap.size, 0, none⟩) n n)) w') : wpList Tryd.prog ops Q (o :: rest) a w := by
  obtain ⟨i, hi, hz⟩ := Option.map_eq_some_iff.1 blk_info
  simp only [Prod.mk.injEq] at hz
  obtain ⟨hz, hs, hb⟩ := hz
  obtain ⟨z, hz, hc2⟩ := Option.map_eq_some_iff.1 hz
  refine wpList_make_full w hgd l c 113 hop w.heap.size 126 i z 128 Tryd.underlying113 hi hz hs .i64 .i64 n n n hl hc rfl rfl (by rw [hb]; omega) (by unfold maxLen; omega) (Nat.le_refl _) ?_
  intro w' h1 h2
  rw [hc2, made_same _ _ _ (by decide)] at h1
  refine hK w' ?_ ((Ext.rfl' w).gr h2 (fun k hk => by cases hk))
  rcases h1.2 with ⟨h, _⟩ | ⟨g, cap, cur, he, hb1, hg, hn1, hc1, hcs, ht⟩
  · cases h
  · cases he
    unfold Arr
    rw [hg]
    have e : cur.toList = List.replicate (n * 128) (.int .u8 0) := by
      rw [← ht, List.take_of_length_le (by rw [Array.length_toList, hcs]; exact Nat.le_refl _)]
    rw [← e]
theorem run_crPut (m : Nat) (W : World) (h : W.heap[m]? = some (.map #[] 0)) (a : Int) (k : Nat) :
    (Instr.mapUpdate 114 (.map (some m)) (.int .i64 a) (.int .i64 k)).run Tryd.prog W = .ok () { W with heap := W.heap.setIfInBounds m (.map (crMap (some (a, k))) 1) } := by
  have hk : Tryd.prog.underlying 3 = some (.int .i64) := Tryd.underlying3
  have hf : Instr.findNow (.int .i64) (.int .i64 a) ([] : List MapEntry) 0 = some none := rfl
  have hc : (Instr.checkKey false 10000 3 (.int .i64 a)).run Tryd.prog W = .ok () W := MapKept.run_checkKey (k := .int .i64 a) hk (by simp [MapKept.IsKey]) false 9999
  simp [Instr.mapUpdate, run_underlying Tryd.underlying114, MapKept.run_getObj_map h, hc, MapKept.run_findKey hk hf, MapKept.run_setObj_map _ h, Result.andThen, crMap]
theorem wpl_crPut {w : World} {ops : Array Oper} {rest : List Oper} {o : Oper} {a : Act} {Q : Exit → Act → World → Prop} (hgd : o.guard = none) (m x v : Operand) (hop : o.op = Op.mapUpdate 114 m x v) {b : Nat} {n : Int} {k : Nat} (hm : a.eval m = .map (some b)) (hx : a.eval x = .int .i64 n) (hv : a.eval v = .int .i64 k)
    (hb : w.heap[b]? = some (.map #[] 0)) (h : wpList Tryd.prog ops Q rest (a.put o.dst undef) { w with heap := w.heap.setIfInBounds b (.map (crMap (some (n, k))) 1) }) : wpList Tryd.prog ops Q (o :: rest) a w := by
  refine wpList_plain hgd fun K' hK' => ?_
  have hr := run_crPut b w hb n k
  unfold Oper.wp
  simp [execOp, hop, hm, hx, hv, hr, Result.andThen]
  exact hK' _ _ h
theorem heap_crPut {w : World} {b : Nat} {o o' : Obj} (hb : w.heap[b]? = some o) : ({ w with heap := w.heap.setIfInBounds b o' } : World).heap[b]? = some o' ∧ ∀ k, k ≠ b → ({ w with heap := w.heap.setIfInBounds b o' } : World).heap[k]? = w.heap[k]? := by
  have hlt := (Array.getElem?_eq_some_iff.1 hb).1
  refine ⟨Array.getElem?_setIfInBounds_self_of_lt hlt, fun k hk => ?_⟩
  exact Array.getElem?_setIfInBounds_ne (Ne.symm hk)
/-- The disk as New lays it. -/
theorem dk_new {w w1 : World} {n : Nat} (h1 : 1 ≤ n) (h2 : n ≤ 4096) (A1 : Arr w1 w.heap.size 126 (List.replicate (n * 128) (.int .u8 0))) (E1 : Ext w w1) :
    DkAt ((w1.alloc (.map #[] 0)).alloc (.cells #[.slice (some ⟨w.heap.size, 0, none⟩) n n, .map (some w1.heap.size), .int .i64 0, .bool false] 116)) w.heap.size (w1.heap.size + 1) w.heap.size w1.heap.size (dk0 n none) ∧ Ext w ((w1.alloc (.map #[] 0)).alloc (.cells #[.slice (some ⟨w.heap.size, 0, none⟩) n n, .map (some w1.heap.size), .int .i64 0, .bool false] 116)) := by
  have hb := Arr.new (w1.alloc (.map #[] 0)) 116 [.slice (some ⟨w.heap.size, 0, none⟩) n n, .map (some w1.heap.size), .int .i64 0, .bool false]
  rw [World.size_alloc] at hb
  have hs := E1.size
  refine ⟨⟨?_, ?_, ?_, ?_, fun a k h => (by cases h), by omega, Nat.le_refl _, hs, ?_, ?_, ?_⟩, (E1.al _).al _⟩
  · unfold dkV dk0
    dsimp only
    rw [List.length_replicate]
    exact hb
  · unfold dk0
    dsimp only
    rw [flat0]
    exact (A1.alloc _).alloc _
  · exact (Below.heap_alloc _ _ _ (by rw [World.size_alloc]; omega)).trans (World.alloc_heap_new w1 _)
  · intro b hb
    unfold dk0 at hb
    rw [List.eq_of_mem_replicate hb, List.length_replicate]
  · unfold dk0; dsimp only; rw [List.length_replicate]; omega
  · unfold dk0; dsimp only; rw [List.length_replicate]; omega
  · unfold dk0; dsimp only; omega
set_option maxRecDepth 100000 in
theorem dnew_any (n : Nat) (h1 : 1 ≤ n) (h2 : n ≤ 4096) (w : World) : Calls Tryd.prog 30 #[.int .i64 n, .slice none 0 0] w fun e w' => ∃ p g m, e = .returned (.tuple #[.pointer (some ⟨p, 0, none⟩), .int .i64 0]) ∧ DkAt w' w.heap.size p g m (dk0 n none) ∧ Ext w w' := by
  have d1 : decide ((n : Int) < 1) = false := by simp; omega
  have d2 : decide ((4096 : Int) < (n : Int)) = false := by simp; omega
  have hmm := @run_makeMap Tryd.prog
  go_enter Tryd.func30, Tryd.ntmps30
  go_upto_region 3 with fail
  go_wp2_with (at_make; refine wpl_blocks rfl _ _ rfl n rfl rfl (by omega) ?_; intro w1 A1 E1)
  obtain ⟨D, F⟩ := dk_new h1 h2 A1 E1
  obtain ⟨W3, hW3⟩ : ∃ W3, ((w1.alloc (.map #[] 0)).alloc (.cells #[.slice (some ⟨w.heap.size, 0, none⟩) n n, .map (some w1.heap.size), .int .i64 0, .bool false] 116)) = W3 := ⟨_, rfl⟩
  rw [hW3] at D F ⊢
  clear hW3 A1 E1 hmm
  go_loopw [24] (fun i wr => i = .int .i64 0 ∧ wr = W3) (fun _ _ => 0)
  case atStart => exact ⟨rfl, rfl⟩
  case round =>
    obtain ⟨rfl, rfl⟩ := hrel
    go_wp2
    go_ret2
    exact ⟨_, _, _, rfl, D, F⟩
set_option maxRecDepth 100000 in
set_option maxHeartbeats 1000000 in
theorem dnew_crash (n : Nat) (h1 : 1 ≤ n) (h2 : n ≤ 4096) (b c : Nat) (N K : Int) (kp : Nat) (hkp : min (max K 0) 128 = (kp : Int)) (w : World) (c0 : w.cell? ⟨b, 0, none⟩ = some (.int .i64 N)) (c1 : w.cell? ⟨b, 1, none⟩ = some (.int .i64 K)) (hb : b < w.heap.size) :
    Calls Tryd.prog 30 #[.int .i64 n, .slice (some ⟨b, 0, none⟩) 1 c] w fun e w' => ∃ p g m, e = .returned (.tuple #[.pointer (some ⟨p, 0, none⟩), .int .i64 0]) ∧ DkAt w' w.heap.size p g m (dk0 n (some (N, kp))) ∧ Ext w w' := by
  have d1 : decide ((n : Int) < 1) = false := by simp; omega
  have d2 : decide ((4096 : Int) < (n : Int)) = false := by simp; omega
  have hmm := @run_makeMap Tryd.prog
  have HKP := Kp.mk hkp
  clear hkp
  go_enter Tryd.func30, Tryd.ntmps30
  go_upto_region 3 with fail
  go_wp2_with (at_make; refine wpl_blocks rfl _ _ rfl n rfl rfl (by omega) ?_; intro w1 A1 E1)
  obtain ⟨D, F⟩ := dk_new h1 h2 A1 E1
  obtain ⟨W3, hW3⟩ : ∃ W3, ((w1.alloc (.map #[] 0)).alloc (.cells #[.slice (some ⟨w.heap.size, 0, none⟩) n n, .map (some w1.heap.size), .int .i64 0, .bool false] 116)) = W3 := ⟨_, rfl⟩
  obtain ⟨p, hp⟩ : ∃ p, w1.heap.size + 1 = p := ⟨_, rfl⟩
  obtain ⟨m, hm⟩ : ∃ m, w1.heap.size = m := ⟨_, rfl⟩
  rw [hW3] at D F ⊢
  rw [hp, hm] at D ⊢
  replace c0 := ((bcell F).1 b _ hb).trans c0
  replace c1 := ((bcell F).1 b _ hb).trans c1
  clear hW3 A1 E1 hmm hp hm hb
  go_loopw [24] (fun i wr => (i = .int .i64 0 ∧ wr = W3) ∨ (i = .int .i64 1 ∧ DkAt wr w.heap.size p w.heap.size m (dk0 n (some (N, kp))) ∧ Ext w wr)) (fun i _ => 1 - (intOf i).toNat)
  case atStart => exact .inl ⟨rfl, rfl⟩
  case round =>
    rcases hrel with ⟨rfl, hwr⟩ | ⟨rfl, D2, F2⟩
    · rw [hwr]
      clear hwr
      obtain ⟨W6, hW6, E6, B6⟩ : ∃ W6, W3.alloc (.cells #[.int .i64 N, .int .i64 K] 69) = W6 ∧ Ext W3 W6 ∧ Arr W6 W3.heap.size 69 [.int .i64 N, .int .i64 K] := ⟨_, rfl, (Ext.rfl' W3).al _, Arr.new W3 _ [.int .i64 N, .int .i64 K]⟩
      have D6 := D.ext E6
      have F6 := F.tr E6
      clear D F E6
      go_upto_region 7 with fail
      clear hW6 c0 c1
      have hl0 : ∀ W, Ext W6 W → (Instr.lookup 114 (.map (some m)) (.int .i64 N) true).run Tryd.prog W = .ok (.tuple #[.int .i64 0, .bool false]) W := fun W hW => run_crAt none N m W (D6.ext hW).cr
      refine wp_region_stageE [] (fun bs W => Ext W6 W) (fun bs i v W => match i with
        | 0 => v = .pointer (some ⟨p, 0, none⟩)
        | 1 => v = .pointer (some ⟨p, 0, none⟩)
        | 2 => v = .pointer (some ⟨p, 1, none⟩)
        | 3 => v = .map (some m)
        | 4 => v = .pointer (some ⟨W3.heap.size, 0, none⟩)
        | 5 => v = .int .i64 N
        | 6 => v = .tuple #[.int .i64 0, .bool false]
        | 7 => v = .tuple #[.int .i64 0, .bool false]
        | 8 => v = .int .i64 0
        | 9 => v = .bool false
        | 10 => v = .int .i64 0
        | 11 => v = .bool false
        | _ => True) (cs_inj (by decide)) (by decide) (by kernel_rfl) (by kernel_rfl) (by kernel_rfl) (by kernel_rfl) ((Ext.rfl' W6).dr) (fun bs W1 W2 h e => h.tr e) ?_ ?_ ?_
      · intro bs i v W1 W2 e1 e2 h
        match i, h with
        | 0, h => exact h
        | 1, h => exact h
        | 2, h => exact h
        | 3, h => exact h
        | 4, h => exact h
        | 5, h => exact h
        | 6, h => exact h
        | 7, h => exact h
        | 8, h => exact h
        | 9, h => exact h
        | 10, h => exact h
        | 11, h => exact h
        | (i + 12), h => exact h
      · intro HF
        refine localsQ_ord (by decide) (fun bs u W hbs hW hno hd => ?_) ?_
        · refine opLeaves_ev HF rfl fun ev zc zg zf zt => ?_
          have t6 : ev (.tmp 6) = .pointer (some ⟨p, 0, none⟩) := zt 6
          clear zt
          exact ev_val (v := .pointer (some ⟨p, 0, none⟩)) (by go_simp) rfl
        refine localsQ_ord (by decide) (fun bs u W hbs hW hno hd => ?_) ?_
        · refine opLeaves_ev HF rfl fun ev zc zg zf zt => ?_
          have t29 : ev (.tmp 29) = u 0 := zt 29
          clear zt
          have h0 : u 0 = _ := hd 0 (by kernel_rfl)
          exact ev_val (v := .pointer (some ⟨p, 0, none⟩)) (by go_simp) rfl
        refine localsQ_ord (by decide) (fun bs u W hbs hW hno hd => ?_) ?_
        · refine opLeaves_ev HF rfl fun ev zc zg zf zt => ?_
          have t30 : ev (.tmp 30) = u 1 := zt 30
          clear zt
          have h1 : u 1 = _ := hd 1 (by kernel_rfl)
          exact ev_val (v := .pointer (some ⟨p, 1, none⟩)) (by go_simp) rfl
        refine localsQ_ord (by decide) (fun bs u W hbs hW hno hd => ?_) ?_
        · refine opLeaves_ev HF rfl fun ev zc zg zf zt => ?_
          have t31 : ev (.tmp 31) = u 2 := zt 31
          clear zt
          have h2 : u 2 = _ := hd 2 (by kernel_rfl)
          have k1 := (D6.ext hW).cells.2.1
          exact ev_val (v := .map (some m)) (by go_simp) rfl
        refine localsQ_ord (by decide) (fun bs u W hbs hW hno hd => ?_) ?_
        · refine opLeaves_ev HF rfl fun ev zc zg zf zt => ?_
          have t8 : ev (.tmp 8) = .pointer (some ⟨W3.heap.size, 0, none⟩) := zt 8
          clear zt
          exact ev_val (v := .pointer (some ⟨W3.heap.size, 0, none⟩)) (by go_simp) rfl
        refine localsQ_ord (by decide) (fun bs u W hbs hW hno hd => ?_) ?_
        · refine opLeaves_ev HF rfl fun ev zc zg zf zt => ?_
          have t33 : ev (.tmp 33) = u 4 := zt 33
          clear zt
          have h4 : u 4 = _ := hd 4 (by kernel_rfl)
          have c0 := (B6.ext hW B6.lt).cell 0
          simp only [List.getElem?_cons_zero] at c0
          exact ev_val (v := .int .i64 N) (by go_simp) rfl
        refine localsQ_ord (by decide) (fun bs u W hbs hW hno hd => ?_) ?_
        · refine opLeaves_ev HF rfl fun ev zc zg zf zt => ?_
          have t32 : ev (.tmp 32) = u 3 := zt 32
          have t34 : ev (.tmp 34) = u 5 := zt 34
          clear zt
          have h3 : u 3 = _ := hd 3 (by kernel_rfl)
          have h5 : u 5 = _ := hd 5 (by kernel_rfl)
          have hl := hl0 W hW
          exact ev_val (v := .tuple #[.int .i64 0, .bool false]) (by go_simp) rfl
        refine localsQ_ord (by decide) (fun bs u W hbs hW hno hd => ?_) ?_
        · refine opLeaves_ev HF rfl fun ev zc zg zf zt => ?_
          have t35 : ev (.tmp 35) = u 6 := zt 35
          clear zt
          have h6 : u 6 = _ := hd 6 (by kernel_rfl)
          exact ev_val (v := .tuple #[.int .i64 0, .bool false]) (by go_simp) rfl
        refine localsQ_ord (by decide) (fun bs u W hbs hW hno hd => ?_) ?_
        · refine opLeaves_ev HF rfl fun ev zc zg zf zt => ?_
          have t28 : ev (.tmp 28) = u 7 := zt 28
          clear zt
          have h7 : u 7 = _ := hd 7 (by kernel_rfl)
          exact ev_val (v := .int .i64 0) (by go_simp) rfl
        refine localsQ_ord (by decide) (fun bs u W hbs hW hno hd => ?_) ?_
        · refine opLeaves_ev HF rfl fun ev zc zg zf zt => ?_
          have t28 : ev (.tmp 28) = u 7 := zt 28
          clear zt
          have h7 : u 7 = _ := hd 7 (by kernel_rfl)
          exact ev_val (v := .bool false) (by go_simp) rfl
        refine localsQ_ord (by decide) (fun bs u W hbs hW hno hd => ?_) ?_
        · refine opLeaves_ev HF rfl fun ev zc zg zf zt => ?_
          have t36 : ev (.tmp 36) = u 8 := zt 36
          clear zt
          have h8 : u 8 = _ := hd 8 (by kernel_rfl)
          exact ev_val (v := .int .i64 0) (by go_simp) rfl
        refine localsQ_ord (by decide) (fun bs u W hbs hW hno hd => ?_) localsQ_nil
        · refine opLeaves_ev HF rfl fun ev zc zg zf zt => ?_
          have t37 : ev (.tmp 37) = u 9 := zt 37
          clear zt
          have h9 : u 9 = _ := hd 9 (by kernel_rfl)
          exact ev_val (v := .bool false) (by go_simp) rfl
      · intro u7 W7 hW7 hV
        have h11 : u7 11 = _ := hV 11 (by decide)
        have D7 := D6.ext hW7
        have B7 := B6.ext hW7 B6.lt
        have F7 := F6.tr hW7
        clear hV hW7 D6 B6 F6 hl0
        go_simp
        go_upto_region 9 with fail
        refine wp_region_tailsE (fun i v W => match i with
          | 0 => v = .pointer (some ⟨p, 0, none⟩)
          | 1 => v = .pointer (some ⟨p, 0, none⟩)
          | 2 => v = .pointer (some ⟨p, 1, none⟩)
          | 3 => v = .map (some m)
          | 4 => v = .pointer (some ⟨W3.heap.size, 0, none⟩)
          | 5 => v = .int .i64 N
          | 6 => v = .pointer (some ⟨W3.heap.size, 1, none⟩)
          | 7 => v = .int .i64 K
          | 8 => v = .int .i64 (max K 0)
          | 9 => v = .int .i64 kp
          | _ => True) 10 (by kernel_rfl) (by kernel_rfl) (by kernel_rfl) (by decide) (by kernel_rfl) (by kernel_rfl) (by kernel_rfl) (by kernel_rfl) ?_ ?_ ?_
        · intro i v W1 W2 e1 e2 h
          match i, h with
          | 0, h => exact h
          | 1, h => exact h
          | 2, h => exact h
          | 3, h => exact h
          | 4, h => exact h
          | 5, h => exact h
          | 6, h => exact h
          | 7, h => exact h
          | 8, h => exact h
          | 9, h => exact h
          | (i + 10), h => exact h
        · intro HF
          refine localsR_cons (fun u W hW hd => ?_) ?_
          · refine opLeaves_ev HF rfl fun ev zc zg zf zt => ?_
            have t6 : ev (.tmp 6) = .pointer (some ⟨p, 0, none⟩) := zt 6
            clear zt
            exact ev_val (v := .pointer (some ⟨p, 0, none⟩)) (by go_simp) rfl
          refine localsR_cons (fun u W hW hd => ?_) ?_
          · refine opLeaves_ev HF rfl fun ev zc zg zf zt => ?_
            have t40 : ev (.tmp 40) = u 0 := zt 40
            clear zt
            have h0 : u 0 = _ := hd 0 (by kernel_rfl)
            exact ev_val (v := .pointer (some ⟨p, 0, none⟩)) (by go_simp) rfl
          refine localsR_cons (fun u W hW hd => ?_) ?_
          · refine opLeaves_ev HF rfl fun ev zc zg zf zt => ?_
            have t41 : ev (.tmp 41) = u 1 := zt 41
            clear zt
            have h1 : u 1 = _ := hd 1 (by kernel_rfl)
            exact ev_val (v := .pointer (some ⟨p, 1, none⟩)) (by go_simp) rfl
          refine localsR_cons (fun u W hW hd => ?_) ?_
          · refine opLeaves_ev HF rfl fun ev zc zg zf zt => ?_
            have t42 : ev (.tmp 42) = u 2 := zt 42
            clear zt
            have h2 : u 2 = _ := hd 2 (by kernel_rfl)
            have k1 := (D7.ext hW).cells.2.1
            exact ev_val (v := .map (some m)) (by go_simp) rfl
          refine localsR_cons (fun u W hW hd => ?_) ?_
          · refine opLeaves_ev HF rfl fun ev zc zg zf zt => ?_
            have t8 : ev (.tmp 8) = .pointer (some ⟨W3.heap.size, 0, none⟩) := zt 8
            clear zt
            exact ev_val (v := .pointer (some ⟨W3.heap.size, 0, none⟩)) (by go_simp) rfl
          refine localsR_cons (fun u W hW hd => ?_) ?_
          · refine opLeaves_ev HF rfl fun ev zc zg zf zt => ?_
            have t44 : ev (.tmp 44) = u 4 := zt 44
            clear zt
            have h4 : u 4 = _ := hd 4 (by kernel_rfl)
            have c0 := (B7.ext hW B7.lt).cell 0
            simp only [List.getElem?_cons_zero] at c0
            exact ev_val (v := .int .i64 N) (by go_simp) rfl
          refine localsR_cons (fun u W hW hd => ?_) ?_
          · refine opLeaves_ev HF rfl fun ev zc zg zf zt => ?_
            have t8 : ev (.tmp 8) = .pointer (some ⟨W3.heap.size, 0, none⟩) := zt 8
            clear zt
            exact ev_val (v := .pointer (some ⟨W3.heap.size, 1, none⟩)) (by go_simp) rfl
          refine localsR_cons (fun u W hW hd => ?_) ?_
          · refine opLeaves_ev HF rfl fun ev zc zg zf zt => ?_
            have t46 : ev (.tmp 46) = u 6 := zt 46
            clear zt
            have h6 : u 6 = _ := hd 6 (by kernel_rfl)
            have c1 := (B7.ext hW B7.lt).cell 1
            simp only [List.getElem?_cons_zero, List.getElem?_cons_succ] at c1
            exact ev_val (v := .int .i64 K) (by go_simp) rfl
          refine localsR_cons (fun u W hW hd => ?_) ?_
          · refine opLeaves_ev HF rfl fun ev zc zg zf zt => ?_
            have t47 : ev (.tmp 47) = u 7 := zt 47
            clear zt
            have h7 : u 7 = _ := hd 7 (by kernel_rfl)
            exact ev_val (v := .int .i64 (max K 0)) (by go_simp) rfl
          refine localsR_cons (fun u W hW hd => ?_) localsR_nil
          · refine opLeaves_ev HF rfl fun ev zc zg zf zt => ?_
            have t48 : ev (.tmp 48) = u 8 := zt 48
            clear zt
            have h8 : u 8 = _ := hd 8 (by kernel_rfl)
            have hkp := HKP.out
            exact ev_val (v := .int .i64 kp) (by go_simp) rfl
        · intro u9 W9 hW9 hV
          have h3 : u9 3 = _ := hV 3 (by decide)
          have h5 : u9 5 = _ := hV 5 (by decide)
          have h9 : u9 9 = _ := hV 9 (by decide)
          have D9 := D7.ext hW9
          have F9 := F7.tr hW9
          clear hV hW9 D7 B7 F7
          have hm0 : W9.heap[m]? = some (.map #[] 0) := D9.cr
          refine wpl_crPut rfl _ _ _ rfl (b := m) (n := N) (k := kp) (by go_simp) (by go_simp) (by go_simp) hm0 ?_
          obtain ⟨hq1, hq2⟩ := heap_crPut (o' := .map (crMap (some (N, kp))) 1) hm0
          have hsz : ({ W9 with heap := W9.heap.setIfInBounds m (.map (crMap (some (N, kp))) 1) } : World).heap.size = W9.heap.size := by simp
          have hos : ({ W9 with heap := W9.heap.setIfInBounds m (.map (crMap (some (N, kp))) 1) } : World).os = W9.os := rfl
          have htp : ({ W9 with heap := W9.heap.setIfInBounds m (.map (crMap (some (N, kp))) 1) } : World).tape = W9.tape := rfl
          have hou : ({ W9 with heap := W9.heap.setIfInBounds m (.map (crMap (some (N, kp))) 1) } : World).output = W9.output := rfl
          obtain ⟨V, hV⟩ : ∃ V : World, { W9 with heap := W9.heap.setIfInBounds m (.map (crMap (some (N, kp))) 1) } = V := ⟨_, rfl⟩
          rw [hV] at hq1 hq2 hsz hos htp hou ⊢
          have hmB := D9.mB
          have F10 : Ext w V := ⟨hos.trans F9.os, htp.trans F9.tape, hou.trans F9.output, by rw [hsz]; exact F9.size, fun k hk => (hq2 k (by omega)).trans (F9.block k hk)⟩
          have hk128 : kp ≤ 128 := by have := HKP.out; omega
          have D10 : DkAt V w.heap.size p w.heap.size m (dk0 n (some (N, kp))) :=
            ⟨(hq2 p (Ne.symm D9.pm.1)).trans D9.box, (hq2 _ (Ne.symm D9.pm.2)).trans D9.row, hq1, D9.all, fun a k h => (by cases h; exact hk128), D9.pB, D9.gB, D9.mB, D9.pos, D9.le, D9.wr⟩
          clear hV hq1 hq2 hsz hos htp hou F9 D9 hm0 hmB
          go_simp
          go_wp2
          go_roundw
          case rel => exact .inr ⟨rfl, D10, F10⟩
          case measure => simp [intOf]
    · go_wp2
      go_ret2
      exact ⟨_, _, _, rfl, D2, F2⟩
end Go.Proofs.YtmnpbpfeoackiaaDoor
