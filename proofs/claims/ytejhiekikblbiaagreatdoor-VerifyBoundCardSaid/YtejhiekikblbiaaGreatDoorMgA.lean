/-
  Small facts on byte strings, owned slices and worlds that the walks of this seat use. No condition. · SHA-256 in plain words over lists: what is added behind, the schedule of a block, a step, a sum. No program in sight. · append(v, make([]T, k)...) onto a slice of the call's own, of elements of one cell: the row with k zero values behind. Condition: Go's own limits on lengths and bytes. · Package sha: words turned, four bytes as a word. No condition. · Package sha: four bytes as a word. Condition: at least four bytes are there. · Package sha: the words at first, words as bytes. No condition. · Package sha's reference: the words at first. No condition. · Plain functions on lists of bytes that stand for package octet's functions, and their laws. No program in sight. No condition.
-/
import Derived.WalkKit
import Derived.WalkSpells
import Derived.WalkLawsBesides
import Derived.BigQuiet
import Derived.Handy
import Derived.StillTailTactics
import Derived.Deep.RegionHeld3
import Derived.Lib.Hide
import Derived.Lib.AppendZerosOnto
import Derived.Test.YtejhiekikblbiaaGreatDoorProg
import Derived.Deep.DeepCutAuto
import Derived.Lib.Bytealg
import Derived.Lib.Repeat
namespace Go.Proofs.YtejhiekikblbiaaGreatDoor
open Go.RowKit

/-- A string's bytes as a list, and back. -/
def toL (b : ByteArray) : List UInt8 := b.data.toList
def ofL (l : List UInt8) : ByteArray := ⟨l.toArray⟩
@[go_sem] theorem toL_ofL (l : List UInt8) : toL (ofL l) = l := by simp [toL, ofL]
theorem ofL_toL (b : ByteArray) : ofL (toL b) = b := by simp [toL, ofL]
@[go_sem] theorem size_ofL (l : List UInt8) : (ofL l).size = l.length := by simp [ofL, ByteArray.size]
theorem length_toL (b : ByteArray) : (toL b).length = b.size := by rw [← ofL_toL b, toL_ofL, size_ofL]
@[go_sem] theorem toList_eq_toL (b : ByteArray) : b.toList = toL b := ByteArray.toList_eq b
theorem toL_inj {a b : ByteArray} (h : toL a = toL b) : a = b := by rw [← ofL_toL a, h, ofL_toL]
theorem toL_append (a b : ByteArray) : toL (a ++ b) = toL a ++ toL b := by simp [toL]
theorem ofL_append (a b : List UInt8) : ofL a ++ ofL b = ofL (a ++ b) := toL_inj (by rw [toL_append, toL_ofL, toL_ofL, toL_ofL])
theorem toL_extract (a : ByteArray) (i j : Nat) : toL (a.extract i j) = ((toL a).drop i).take (j - i) := by
  simp [toL, ByteArray.data_extract]
theorem ofL_extract (l : List UInt8) (i j : Nat) : (ofL l).extract i j = ofL ((l.drop i).take (j - i)) := toL_inj (by rw [toL_extract, toL_ofL, toL_ofL])
theorem toL_get (a : ByteArray) (k : Nat) (h : k < a.size) : a[k] = (toL a)[k]'(by rw [length_toL]; exact h) := by simp [toL]; rfl
theorem beq_iff (a b : ByteArray) : (toL a == toL b) = decide (a = b) := by
  rw [Bool.eq_iff_iff]; simp; exact ⟨toL_inj, fun h => by rw [h]⟩

/-- A byte as a cell. -/
def U8 (b : UInt8) : Value := .int .u8 b.toNat

/-- The byte of a number. -/
def byteOf (n : Int) : UInt8 := (n % 256).toNat.toUInt8
theorem U8_byteOf (n : Int) : U8 (byteOf n) = .int .u8 (n % 256) := by
  unfold U8 byteOf
  congr 1
  rw [UInt8.toNat_ofNat']
  omega

theorem ret_str {a b : ByteArray} (h : a = b) : Ending.returned (.string a) = .returned (.string b) := by rw [h]
theorem ret_int {k : IntKind} {a b : Int} (h : a = b) : Ending.returned (.int k a) = .returned (.int k b) := by rw [h]
theorem ret_bool {a b : Bool} (h : a = b) : Ending.returned (.bool a) = .returned (.bool b) := by rw [h]

/-- What was there below the elder world's size is there as it was. -/
abbrev Ext (w w' : World) : Prop := Below w.heap.size w w'
theorem Ext.rfl' (w : World) : Ext w w := Below.refl _ _
theorem Ext.tr {a b c : World} (h : Ext a b) (k : Ext b c) : Ext a c := h.trans (k.mono h.size)
theorem Ext.al {a b : World} (h : Ext a b) (o : Obj) : Ext a (b.alloc o) := h.alloc h.size o
theorem Ext.dr {a b : World} (h : Ext a b) : Ext a b.drew := h.drew
theorem Ext.drN {a b : World} (h : Ext a b) (n : Nat) : Ext a (b.drewN n) := ⟨h.os, h.tape, h.output, h.size, h.block⟩
theorem Ext.st {a b : World} (h : Ext a b) {p : Addr} (hp : a.heap.size ≤ p.block) (u : Value) : Ext a (b.setCell p u) := h.setCell hp u
theorem Ext.gr {a b c : World} {row : Option Nat} (h : Ext a b) (hg : b.grownBy c row) (hr : ∀ k, row = some k → a.heap.size ≤ k) : Ext a c := h.grown hg h.size hr
theorem Ext.own {a b c : World} {base : Nat} {e : TypeId} {size n : Nat} {v : Value} {xs : List Value} (h : Ext a b) (hg : b.grownBy c v.ownBlock) (ho : b.ownsRow base e size v n xs) (hb : a.heap.size ≤ base) : Ext a c :=
  h.gr hg fun k hk => by have := ho.lt k hk; omega
theorem bcell {W w1 : World} (hb : Ext W w1) : (∀ b o, b < W.heap.size → w1.cell? ⟨b, o, none⟩ = W.cell? ⟨b, o, none⟩) ∧ (∀ b o, b < W.heap.size → w1.frozen? ⟨b, o, none⟩ = W.frozen? ⟨b, o, none⟩) :=
  ⟨fun b o h => hb.cell (p := ⟨b, o, none⟩) h, fun b o h => hb.frozen (p := ⟨b, o, none⟩) h⟩

/-! ### owned rows -/
/-- The table's row of a slice type. -/
structure Elem (P : Program) (t e : TypeId) (z : Value) (size bytes : Nat) : Prop where
  ht : P.underlying t = some (.slice e)
  hi : ∃ i, P.info? e = some i ∧ i.zero = some z ∧ i.size = size ∧ i.bytes = bytes
  hz : z.cells.size = size
  h0 : 0 < size

section
variable {P : Program} {t e : TypeId} {z : Value} {size bytes : Nat}

theorem cells_lit (w : World) (news : List Value) (e : TypeId) (fr : Nat × Nat) (j : Nat) (u : Value) (h : news[j]? = some u) : (w.alloc (.cells news.toArray e fr)).cell? ((⟨w.heap.size, 0, none⟩ : Addr).add j) = some u := by
  have hadd : (⟨w.heap.size, 0, none⟩ : Addr).add j = ⟨w.heap.size, j, none⟩ := by unfold Addr.add; split <;> simp_all
  rw [hadd, cell_of_row _ _ j news.toArray e fr (heap_alloc_new w _)]
  simpa using h

/-- append(v, x, ..) of elements that are written out. -/
theorem wpl_app (E : Elem P t e z size bytes) {w : World} {ops : Array Oper} {rest : List Oper} {o : Oper} {a : Act} {Q : Exit → Act → World → Prop} {news : List Value} {e' : TypeId}
    (hgd : o.guard = none) (s x : Operand) (ho : o.op = .call { callee := .builtin .append, args := #[s, x], argTypes := #[t, t] })
    {base : Nat} {v : Value} {n : Nat} {xs : List Value} (hown : w.ownsRow base e size v n xs) (m : Nat) (hs : a.eval s = v) (hx : a.eval x = .slice (some ⟨w.heap.size, 0, none⟩) m m)
    (hl : news.length = m * size) (h1 : ∀ u ∈ news, u.oneCell' = true) (h63 : n + m ≤ 9223372036854775807) (hbytes : (n + m) * bytes ≤ 140737488355328) (hbase : base ≤ w.heap.size)
    (h : ∀ v' w', w'.ownsRow base e size v' (n + m) (xs ++ news) → w.grownBy w' v.ownBlock → wpList P ops Q rest (a.put o.dst v') w') : wpList P ops Q (o :: rest) a (w.alloc (.cells news.toArray e')) := by
  obtain ⟨i, hi, hz, hsz, hby⟩ := E.hi
  refine wpList_append_own _ hgd s x t ho base e i z size bytes E.ht hi hz hsz hby E.hz E.h0 v n xs hs (hown.alloc _) ⟨w.heap.size, 0, none⟩ m m news hx hl (cells_lit w news e' _) h1 (by unfold maxLen; omega) hbytes (by simp; omega) ?_
  intro v' w' h2 h3 _
  exact h v' w' h2 ⟨h3.os, h3.tape, h3.output, Nat.le_trans (by simp) h3.size, fun k hk hne => (h3.block k (by simp; omega) hne).trans (Below.heap_alloc w _ k hk)⟩

/-- append at a step of a region that draws its order, and at a plain list: any world, the new cells read at an address. -/
theorem wp_app (E : Elem P t e z size bytes) {w : World} {o : Oper} {a : Act} {K : Act → World → Prop} {Q : Exit → Act → World → Prop} (s x : Operand) (ho : o.op = .call { callee := .builtin .append, args := #[s, x], argTypes := #[t, t] })
    {base : Nat} {v : Value} {n : Nat} {xs : List Value} (hown : w.ownsRow base e size v n xs) {ad : Addr} (m : Nat) {c : Nat} {news : List Value} (hs : a.eval s = v) (hx : a.eval x = .slice (some ad) m c)
    (hl : news.length = m * size) (hnews : ∀ j u, news[j]? = some u → w.cell? (ad.add j) = some u) (h1 : ∀ u ∈ news, u.oneCell' = true) (h63 : n + m ≤ 9223372036854775807) (hbytes : (n + m) * bytes ≤ 140737488355328) (hbase : base ≤ w.heap.size)
    (h : ∀ v' w', w'.ownsRow base e size v' (n + m) (xs ++ news) → w.grownBy w' v.ownBlock → K (a.put o.dst v') w') : o.wp P a w K Q := by
  obtain ⟨i, hi, hz, hsz, hby⟩ := E.hi
  exact wp_append_own w s x t ho base e i z size bytes E.ht hi hz hsz hby E.hz E.h0 v n xs hs hown ad m c news hx hl hnews h1 (by unfold maxLen; omega) hbytes hbase fun v' w' h2 h3 _ => h v' w' h2 h3
theorem step_app (E : Elem P t e z size bytes) {w : World} {ops : Array Oper} {o : Oper} {a : Act} {K : Act → World → Prop} {Q : Exit → Act → World → Prop} {F : Prop} (hgd : o.guard = none) (s x : Operand) (ho : o.op = .call { callee := .builtin .append, args := #[s, x], argTypes := #[t, t] })
    {base : Nat} {v : Value} {n : Nat} {xs : List Value} (hown : w.ownsRow base e size v n xs) {ad : Addr} (m : Nat) {c : Nat} {news : List Value} (hs : a.eval s = v) (hx : a.eval x = .slice (some ad) m c)
    (hl : news.length = m * size) (hnews : ∀ j u, news[j]? = some u → w.cell? (ad.add j) = some u) (h1 : ∀ u ∈ news, u.oneCell' = true) (h63 : n + m ≤ 9223372036854775807) (hbytes : (n + m) * bytes ≤ 140737488355328) (hbase : base ≤ w.heap.size)
    (h : ∀ v' w', w'.ownsRow base e size v' (n + m) (xs ++ news) → w.grownBy w' v.ownBlock → K (a.put o.dst v') w') : if Region.wanted o (yielded ops a.tmps) = true then Oper.wp P o a w K Q else F := by
  have hw : Region.wanted o (yielded ops a.tmps) = true := by simp [Region.wanted, hgd]
  rw [if_pos hw]
  exact wp_app E s x ho hown m hs hx hl hnews h1 h63 hbytes hbase h
theorem Ext.own' {a b c : World} {base : Nat} {e : TypeId} {size n : Nat} {v : Value} {xs : List Value} {w : World} (_h : Ext a w) (hg : b.grownBy c v.ownBlock) (ho : w.ownsRow base e size v n xs) (hb : a.heap.size ≤ base) (hE : Ext a b) : Ext a c :=
  hE.gr hg fun k hk => by have := ho.lt k hk; omega

/-- make([]T, n), elements of one cell. -/
theorem wpl_make (E : Elem P t e z 1 bytes) (hz1 : z.cells = #[z]) (w : World) {ops : Array Oper} {rest : List Oper} {o : Oper} {a : Act} {Q : Exit → Act → World → Prop}
    (hgd : o.guard = none) (l c : Operand) (hop : o.op = Op.makeSlice t l c) {kl kc : IntKind} {L C : Int} (n : Nat) (hl : a.eval l = .int kl L) (hc : a.eval c = .int kc C) (hL : L = (n : Int)) (hC : C = (n : Int))
    (hb : n * bytes ≤ 140737488355328) (h63 : n ≤ 9223372036854775807)
    (hK : ∀ w', w'.ownsRow w.heap.size e 1 (.slice (some ⟨w.heap.size, 0, none⟩) n n) n (List.replicate n z) → Ext w w' →
      wpList P ops Q rest (a.put o.dst (.slice (some ⟨w.heap.size, 0, none⟩) n n)) w') : wpList P ops Q (o :: rest) a w := by
  obtain ⟨i, hi, hz, hsz, hby⟩ := E.hi
  refine wpList_make_full w hgd l c t hop w.heap.size e i z 1 E.ht hi hz hsz kl kc L C n hl hc hL hC (by rw [hby, Nat.mul_comm]; omega) (by unfold maxLen; omega) (Nat.le_refl _) ?_
  intro w' h1 h2
  rw [hz1, Nat.mul_one, toList_madeCells_one] at h1
  exact hK w' h1 ((Ext.rfl' w).gr h2 (fun k hk => by cases hk))
/-- make([]T, 0, n), elements of one cell. -/
theorem wpl_make0 (E : Elem P t e z size bytes) (w : World) {ops : Array Oper} {rest : List Oper} {o : Oper} {a : Act} {Q : Exit → Act → World → Prop}
    (hgd : o.guard = none) (l c : Operand) (hop : o.op = Op.makeSlice t l c) {kl kc : IntKind} {C : Int} (n : Nat) (hl : a.eval l = .int kl 0) (hc : a.eval c = .int kc C) (hC : C = (n : Int))
    (hb : n * bytes ≤ 140737488355328) (h63 : n ≤ 9223372036854775807)
    (hK : ∀ w', w'.ownsRow w.heap.size e size (.slice (some ⟨w.heap.size, 0, none⟩) 0 n) 0 [] → Ext w w' →
      wpList P ops Q rest (a.put o.dst (.slice (some ⟨w.heap.size, 0, none⟩) 0 n)) w') : wpList P ops Q (o :: rest) a w := by
  obtain ⟨i, hi, hz, hsz, hby⟩ := E.hi
  refine wpList_make_own w hgd l c t hop w.heap.size e i z size E.ht hi hz hsz kl kc C n hl hc hC (by rw [hby, Nat.mul_comm]; omega) (by unfold maxLen; omega) (Nat.le_refl _) ?_
  intro w' h1 h2
  exact hK w' h1 ((Ext.rfl' w).gr h2 (fun k hk => by cases hk))
/-- A store into an owned row of one-cell elements. -/
theorem own_set {w : World} {base : Nat} {g n cap : Nat} {xs : List Value} (h : w.ownsRow base e 1 (.slice (some ⟨g, 0, none⟩) n cap) n xs) (j : Nat) (u : Value) {W : World} (hE : Ext W w) (hb : W.heap.size ≤ base) :
    (w.setCell ⟨g, j, none⟩ u).ownsRow base e 1 (.slice (some ⟨g, 0, none⟩) n cap) n (xs.set j u) ∧ Ext W (w.setCell ⟨g, j, none⟩ u) := by
  have := h.lt g rfl
  exact ⟨(h.stored j u).1, hE.st (by simp; omega) u⟩
theorem own_cell {w : World} {base : Nat} {g n cap : Nat} {xs : List Value} (h : w.ownsRow base e 1 (.slice (some ⟨g, 0, none⟩) n cap) n xs) (j : Nat) (hj : j < n) :
    w.cell? ⟨g, j, none⟩ = some (xs[j]'(by have := h.1; omega)) ∧ w.frozen? ⟨g, j, none⟩ = false :=
  ⟨by rw [h.cellAt j (by omega)]; exact List.getElem?_eq_getElem _, h.frozenAt j⟩

/-- string(v) of an owned row of bytes. -/
theorem foldl_push (l : List UInt8) : ∀ s : ByteArray, (l.map fun b => ((b.toNat : Nat) : Int)).foldl (fun r n => r.push (UInt8.ofNat n.toNat)) s = ofL (toL s ++ l) := by
  induction l with
  | nil => intro s; simp [ofL_toL]
  | cons b l ih =>
    intro s
    simp only [List.map_cons, List.foldl_cons]
    rw [ih]
    congr 1
    simp [toL, ByteArray.push]

theorem run_str_cells (w : World) (src dst e' : TypeId) (hs : P.underlying src = some (.slice e')) (he : P.underlying e' = some (.int .u8)) (hd : P.underlying dst = some .string)
    (ad : Addr) (n c : Nat) (l : List UInt8) (hl : l.length = n) (hc : ∀ j u, (l.map U8)[j]? = some u → w.cell? (ad.add j) = some u) :
    (convert src dst (.slice (some ad) n c)).run P w = .ok (.string (ofL l)) w := by
  rw [run_convert_bytes_string w src dst e' _ _ _ hs he hd]
  have h1 : (loadCells ad n).run P w = .ok ((l.map fun b => ((b.toNat : Nat) : Int)).map (Value.int .u8)).toArray w := by
    have h := run_loadCells_list (P := P) w ad (l.map U8) hc
    rw [List.length_map, hl] at h
    rw [h]
    simp [U8]
  rw [run_bytesToString w ad n c _ h1, foldl_push]
  congr 1

theorem run_str_own {w : World} {base : Nat} {v : Value} {n : Nat} {l : List UInt8} (src dst e' : TypeId) (hs : P.underlying src = some (.slice e')) (he : P.underlying e' = some (.int .u8)) (hd : P.underlying dst = some .string)
    (hown : w.ownsRow base e 1 v n (l.map U8)) : (convert src dst v).run P w = .ok (.string (ofL l)) w := by
  have hl : l.length = n := by simpa using hown.1
  rcases hown.2 with ⟨rfl, rfl⟩ | ⟨g, cap, cur, rfl, hrest⟩
  · have hl0 : l = [] := List.eq_nil_of_length_eq_zero hl
    subst hl0
    rw [run_convert_bytes_string w src dst e' _ _ _ hs he hd]
    rfl
  · exact run_str_cells w src dst e' hs he hd _ n cap l hl (hown.cells rfl)
end
/-- A slice of the call's own is returned. -/
def RetOwn (w : World) (e size n : Nat) (xs : List Value) (en : Ending) (w' : World) : Prop := ∃ v, en = .returned v ∧ w'.ownsRow w.heap.size e size v n xs ∧ Ext w w'
/-- A string as a cell. -/
def Str (l : List UInt8) : Value := .string (ofL l)
theorem oneCell_str (l : List (List UInt8)) : ∀ u ∈ l.map Str, u.oneCell' = true := by
  intro u hu
  obtain ⟨x, _, rfl⟩ := List.mem_map.1 hu
  rfl
theorem oneCell_u8 (l : List UInt8) : ∀ u ∈ l.map U8, u.oneCell' = true := by
  intro u hu
  obtain ⟨x, _, rfl⟩ := List.mem_map.1 hu
  rfl
def strSz : Value → Nat
  | .string r => r.size
  | _ => 0
theorem strSz_str (r : ByteArray) : strSz (.string r) = r.size := rfl
theorem extract_to (r : ByteArray) (n : Nat) : r.extract 0 n = ofL ((toL r).take n) := toL_inj (by rw [toL_extract, toL_ofL]; simp)
theorem extract_from (r : ByteArray) (n : Nat) : r.extract n r.size = ofL ((toL r).drop n) :=
  toL_inj (by rw [toL_extract, toL_ofL, List.take_of_length_le]; simp [length_toL])
theorem extract_mid (r : ByteArray) (i j : Nat) : r.extract i j = ofL (((toL r).drop i).take (j - i)) := toL_inj (by rw [toL_extract, toL_ofL])

/-! ### slices that are only read -/
/-- A slice value of n elements whose cells are xs, below block B. -/
def Rd (w : World) (B : Nat) (size : Nat) (v : Value) (n : Nat) (xs : List Value) : Prop :=
  ∃ A c, v = .slice A n c ∧ n ≤ 9223372036854775807 ∧ xs.length = n * size ∧ (0 < n → ∃ b off, A = some ⟨b, off, none⟩ ∧ b < B ∧ ∀ j u, xs[j]? = some u → w.cell? ⟨b, off + j, none⟩ = some u)
theorem Rd.ext {w w' : World} {B size n : Nat} {v : Value} {xs : List Value} (h : Rd w B size v n xs) (hE : Ext w w') (hB : B ≤ w.heap.size) : Rd w' B size v n xs := by
  obtain ⟨A, c, rfl, hn, hl, hc⟩ := h
  refine ⟨A, c, rfl, hn, hl, fun h0 => ?_⟩
  obtain ⟨b, off, rfl, hb, hcell⟩ := hc h0
  exact ⟨b, off, rfl, hb, fun j u hu => ((bcell hE).1 b _ (by omega)).trans (hcell j u hu)⟩
theorem Rd.more {w : World} {B B' size n : Nat} {v : Value} {xs : List Value} (h : Rd w B size v n xs) (hB : B ≤ B') : Rd w B' size v n xs := by
  obtain ⟨A, c, rfl, hn, hl, hc⟩ := h
  refine ⟨A, c, rfl, hn, hl, fun h0 => ?_⟩
  obtain ⟨b, off, rfl, hb, hcell⟩ := hc h0
  exact ⟨b, off, rfl, by omega, hcell⟩
theorem Rd.own {w : World} {base size n : Nat} {e : TypeId} {v : Value} {xs : List Value} (h : w.ownsRow base e size v n xs) (_hs : 0 < size) : Rd w w.heap.size size v n xs := by
  have hl := h.1
  rcases h.2 with ⟨rfl, rfl⟩ | ⟨g, cap, cur, rfl, hb, hg, hn, hc, hcs, ht⟩
  · exact ⟨_, _, rfl, by omega, hl, fun h => absurd h (by omega)⟩
  · refine ⟨_, _, rfl, by unfold maxLen at hc; omega, hl, fun _ => ⟨g, 0, rfl, (h.lt g rfl).2, fun j u hu => ?_⟩⟩
    have hj : j < xs.length := (List.getElem?_eq_some_iff.1 hu).1
    rw [Nat.zero_add, h.cellAt j (by omega)]
    exact hu
/-- Three new boxes. -/
theorem boxes3 (w : World) (a b c : Value) (ta tb tc : TypeId) : ∃ w3 : World, w3 = ((w.alloc (.cells #[a] ta)).alloc (.cells #[b] tb)).alloc (.cells #[c] tc) ∧ Ext w w3 ∧
    w3.cell? ⟨w.heap.size, 0, none⟩ = some a ∧ w3.cell? ⟨w.heap.size + 1, 0, none⟩ = some b ∧ w3.cell? ⟨w.heap.size + 1 + 1, 0, none⟩ = some c ∧ w3.frozen? ⟨w.heap.size + 1 + 1, 0, none⟩ = false ∧ w3.heap.size = w.heap.size + 3 :=
  ⟨_, rfl, (((Ext.rfl' w).al _).al _).al _, by simp [go_sem, World.cell?_alloc_past], by simp [go_sem, World.cell?_alloc_past], by simp [go_sem], by simp [go_sem], by simp⟩
theorem boxes2 (w : World) (a b : Value) (ta tb : TypeId) : ∃ w3 : World, w3 = (w.alloc (.cells #[a] ta)).alloc (.cells #[b] tb) ∧ Ext w w3 ∧
    w3.cell? ⟨w.heap.size, 0, none⟩ = some a ∧ w3.cell? ⟨w.heap.size + 1, 0, none⟩ = some b ∧ w3.frozen? ⟨w.heap.size + 1, 0, none⟩ = false ∧ w3.heap.size = w.heap.size + 2 :=
  ⟨_, rfl, ((Ext.rfl' w).al _).al _, by simp [go_sem, World.cell?_alloc_past], by simp [go_sem], by simp [go_sem], by simp⟩
theorem cell_set_same {w : World} {a : Addr} {v0 : Value} (h : w.cell? a = some v0) (v : Value) : (w.setCell a v).cell? a = some v := by simp [go_sem, h]
end Go.Proofs.YtejhiekikblbiaaGreatDoor

namespace Go.Proofs.YtejhiekikblbiaaGreatDoor
open Go.RowKit

/-- Turned right. -/
def rotr (x : UInt32) (n : Nat) : UInt32 := (x >>> n.toUInt32) ||| (x <<< (32 - n).toUInt32)
def ssg0 (x : UInt32) : UInt32 := rotr x 7 ^^^ rotr x 18 ^^^ (x >>> 3)
def ssg1 (x : UInt32) : UInt32 := rotr x 17 ^^^ rotr x 19 ^^^ (x >>> 10)
def bsg0 (x : UInt32) : UInt32 := rotr x 2 ^^^ rotr x 13 ^^^ rotr x 22
def bsg1 (x : UInt32) : UInt32 := rotr x 6 ^^^ rotr x 11 ^^^ rotr x 25
/-- Four bytes as a word, the highest first. -/
def word4 (l : List UInt8) : UInt32 := ((l.getD 0 0).toUInt32 <<< 24) ||| ((l.getD 1 0).toUInt32 <<< 16) ||| ((l.getD 2 0).toUInt32 <<< 8) ||| (l.getD 3 0).toUInt32
/-- The next word of a schedule. -/
def nextW (w : List UInt32) : UInt32 := ssg1 (w.getD (w.length - 2) 0) + w.getD (w.length - 7) 0 + ssg0 (w.getD (w.length - 15) 0) + w.getD (w.length - 16) 0
def firstW (b : List UInt8) : List UInt32 := (List.range 16).map fun t => word4 (b.drop (4 * t))
def moreW : Nat → List UInt32 → List UInt32
  | 0, w => w
  | n + 1, w => moreW n (w ++ [nextW w])
def schedL (b : List UInt8) : List UInt32 := moreW 48 (firstW b)

structure St where
  a : UInt32
  b : UInt32
  c : UInt32
  d : UInt32
  e : UInt32
  f : UInt32
  g : UInt32
  h : UInt32
deriving DecidableEq
def roundS (v : St) (k w : UInt32) : St :=
  let t1 := v.h + bsg1 v.e + ((v.e &&& v.f) ^^^ (~~~v.e &&& v.g)) + k + w
  let t2 := bsg0 v.a + ((v.a &&& v.b) ^^^ (v.a &&& v.c) ^^^ (v.b &&& v.c))
  ⟨t1 + t2, v.a, v.b, v.c, v.d + t1, v.e, v.f, v.g⟩
def kTab : List UInt32 := [
  0x428a2f98, 0x71374491, 0xb5c0fbcf, 0xe9b5dba5, 0x3956c25b, 0x59f111f1, 0x923f82a4, 0xab1c5ed5,
  0xd807aa98, 0x12835b01, 0x243185be, 0x550c7dc3, 0x72be5d74, 0x80deb1fe, 0x9bdc06a7, 0xc19bf174,
  0xe49b69c1, 0xefbe4786, 0x0fc19dc6, 0x240ca1cc, 0x2de92c6f, 0x4a7484aa, 0x5cb0a9dc, 0x76f988da,
  0x983e5152, 0xa831c66d, 0xb00327c8, 0xbf597fc7, 0xc6e00bf3, 0xd5a79147, 0x06ca6351, 0x14292967,
  0x27b70a85, 0x2e1b2138, 0x4d2c6dfc, 0x53380d13, 0x650a7354, 0x766a0abb, 0x81c2c92e, 0x92722c85,
  0xa2bfe8a1, 0xa81a664b, 0xc24b8b70, 0xc76c51a3, 0xd192e819, 0xd6990624, 0xf40e3585, 0x106aa070,
  0x19a4c116, 0x1e376c08, 0x2748774c, 0x34b0bcb5, 0x391c0cb3, 0x4ed8aa4a, 0x5b9cca4f, 0x682e6ff3,
  0x748f82ee, 0x78a5636f, 0x84c87814, 0x8cc70208, 0x90befffa, 0xa4506ceb, 0xbef9a3f7, 0xc67178f2]
/-- Over the first n rounds. -/
def roundsS (w : List UInt32) (v : St) : Nat → St
  | 0 => v
  | n + 1 => roundS (roundsS w v n) (kTab.getD n 0) (w.getD n 0)
def addS (v u : St) : St := ⟨v.a + u.a, v.b + u.b, v.c + u.c, v.d + u.d, v.e + u.e, v.f + u.f, v.g + u.g, v.h + u.h⟩
def stepS (v : St) (b : List UInt8) : St := if b.length ≠ 64 then v else addS v (roundsS (schedL b) v 64)
def initS : St := ⟨0x6a09e667, 0xbb67ae85, 0x3c6ef372, 0xa54ff53a, 0x510e527f, 0x9b05688c, 0x1f83d9ab, 0x5be0cd19⟩
def tell4 (x : UInt32) : List UInt8 := [(x >>> 24).toUInt8, (x >>> 16).toUInt8, (x >>> 8).toUInt8, x.toUInt8]
def tellS (v : St) : List UInt8 := tell4 v.a ++ (tell4 v.b ++ (tell4 v.c ++ (tell4 v.d ++ (tell4 v.e ++ (tell4 v.f ++ (tell4 v.g ++ tell4 v.h))))))
/-- Eight bytes of a number, the highest first. -/
def be8 (n : Nat) : List UInt8 := [(n / 72057594037927936 % 256).toUInt8, (n / 281474976710656 % 256).toUInt8, (n / 1099511627776 % 256).toUInt8, (n / 4294967296 % 256).toUInt8, (n / 16777216 % 256).toUInt8, (n / 65536 % 256).toUInt8, (n / 256 % 256).toUInt8, (n % 256).toUInt8]
def endingL (n : Nat) : List UInt8 := 128 :: (List.replicate ((119 - n % 64) % 64) 0 ++ be8 (8 * n))
def shaPad (s : List UInt8) : List UInt8 := s ++ endingL s.length
/-- Over all whole blocks. -/
def overS : Nat → St → List UInt8 → St
  | 0, v, _ => v
  | n + 1, v, s => overS n (stepS v (s.take 64)) (s.drop 64)
def sumL (s : List UInt8) : List UInt8 := tellS (overS ((shaPad s).length / 64) initS (shaPad s))

theorem length_endingL (n : Nat) : (endingL n).length = 9 + (119 - n % 64) % 64 := by simp [endingL, be8]; omega
theorem shaPad_whole (s : List UInt8) : (shaPad s).length % 64 = 0 := by
  unfold shaPad
  rw [List.length_append, length_endingL]
  omega
theorem length_tellS (v : St) : (tellS v).length = 32 := rfl

/-- The chapter's example. -/
theorem sum_abc : sumL [97, 98, 99] = [0xba, 0x78, 0x16, 0xbf, 0x8f, 0x01, 0xcf, 0xea, 0x41, 0x41, 0x40, 0xde, 0x5d, 0xae, 0x22, 0x23, 0xb0, 0x03, 0x61, 0xa3, 0x96, 0x17, 0x7a, 0x9c, 0xb4, 0x10, 0xff, 0x61, 0xf2, 0x00, 0x15, 0xad] := by
  decide +kernel
end Go.Proofs.YtejhiekikblbiaaGreatDoor

namespace Go.Proofs.YtejhiekikblbiaaGreatDoor
open Go.RowKit

theorem toList_zero1 (z : Value) (k : Nat) : (Builtin.zeroCells #[z] k).toList = List.replicate k z := by
  unfold Builtin.zeroCells
  simp only [List.size_toArray, List.length_cons, List.length_nil, Nat.zero_add, Nat.mul_one, Nat.mod_one]
  apply List.ext_getElem
  · simp
  · intro i h1 h2
    simp

section
variable {P : Program} {t e : TypeId} {z : Value} {bytes : Nat}

theorem run_append_room_zeros (w : World) (t tn ty e : TypeId) (i : TypeInfo) (z : Value) (kq kn : IntKind) (ht : P.underlying t = some (.slice e)) (htn : P.underlying tn = some (.int kn)) (hi : P.info? e = some i) (hz : i.zero = some z)
    (hz1 : z.cells = #[z]) (hsz : i.size = 1) (h1 : z.oneCell' = true)
    (g sLen sCap : Nat) (cur : Array Value) (hg : w.heap[g]? = some (.cells cur e (0, 0))) (k : Nat) (h63 : (k : Int) ≤ 9223372036854775807) (h48 : k * i.bytes ≤ 281474976710656)
    (hroom : sLen + k ≤ sCap) (hfit : sLen + k ≤ cur.size) :
    (Builtin.append_ #[t, tn] ty #[.slice (some ⟨g, 0, none⟩) sLen sCap, .int kq k]).run P w =
      .ok (.slice (some ⟨g, 0, none⟩) (sLen + k) sCap) (w.setRow g (cur.toList.take sLen ++ List.replicate k z ++ cur.toList.drop (sLen + k)).toArray) := by
  have hw : IntKind.i64.wrap (k : Int) = k := by rw [IntKind.wrap_i64]; omega
  have h48i : ¬ (281474976710656 < (k : Int) * (i.bytes : Int)) := by
    rw [← Int.natCast_mul]
    omega
  have hneg : ¬ ((k : Int) < 0) := by omega
  have hst := run_storeCells_at P g sLen e (List.replicate k z) 0 cur w hg (by simpa using hfit) (by intro v hv; rw [List.eq_of_mem_replicate hv]; exact h1)
  simp only [Nat.add_zero, List.length_replicate] at hst
  by_cases hk : k = 0
  · subst hk
    simp only [List.replicate_zero, Nat.add_zero, storeCells] at hst
    have hw0 : IntKind.i64.wrap (0 : Int) = 0 := by rw [IntKind.wrap_i64]; omega
    have hr0 : sLen ≤ sCap := by omega
    simp [Builtin.append_, run_underlying ht, run_underlying htn, sizeOf, typeInfo, hi, asInt, asIntOf, hw0, hr0, storeCells]
    simpa using hst
  · have hz2 : (Builtin.zeroCells #[z] k).toList = List.replicate k z := toList_zero1 z k
    simp [Builtin.append_, run_underlying ht, run_underlying htn, sizeOf, typeInfo, zeroValue, hi, hz, asInt, asIntOf, hw, hneg, h48i, hroom, hsz, hk, hz1, hz2, Addr.add_lit, hst]

/-- append(v, make([]T, k)...), v a slice of the call's own. -/
theorem run_app_zeros (E : Elem P t e z 1 bytes) (hz1 : z.cells = #[z]) (h1 : z.oneCell' = true) (w : World) (tn ty : TypeId) (kq kn : IntKind) (htn : P.underlying tn = some (.int kn))
    {base : Nat} {v : Value} {n : Nat} {xs : List Value} (hown : w.ownsRow base e 1 v n xs) (k : Nat) (h63 : n + k ≤ 9223372036854775807) (hbytes : (n + k) * bytes ≤ 140737488355328) (hbase : base ≤ w.heap.size) :
    ∃ v' w', (Builtin.append_ #[t, tn] ty #[v, .int kq k]).run P w = .ok v' w' ∧ w'.ownsRow base e 1 v' (n + k) (xs ++ List.replicate k z) ∧ w.grownBy w' v.ownBlock := by
  obtain ⟨i, hi, hz, hsz, hby⟩ := E.hi
  have ht := E.ht
  subst hby
  have hkb : k * i.bytes ≤ (n + k) * i.bytes := Nat.mul_le_mul_right _ (by omega)
  have hlen : (xs ++ List.replicate k z).length = (n + k) * 1 := by rw [List.length_append, hown.1]; simp
  have hxn : xs.length = n := by simpa using hown.1
  have grown : ∀ (old : Nat), old < n + k → ∀ (row : Option Nat),
      (w.drew.alloc (.cells (xs.toArray ++ Builtin.zeroCells z.cells k ++ Builtin.zeroCells z.cells (grownCap w (n + k) old e - (n + k))) e)).ownsRow base e 1
        (.slice (some ⟨w.heap.size, 0, none⟩) (n + k) (grownCap w (n + k) old e)) (n + k) (xs ++ List.replicate k z) ∧
      w.grownBy (w.drew.alloc (.cells (xs.toArray ++ Builtin.zeroCells z.cells k ++ Builtin.zeroCells z.cells (grownCap w (n + k) old e - (n + k))) e)) row := by
    intro old ho row
    have hge := grownCap_ge w (n + k) old e
    have hcm : grownCap w (n + k) old e ≤ maxLen := grownCap_le_maxLen w (n + k) old e (by unfold maxLen; omega)
    refine ⟨⟨hlen, .inr ⟨w.heap.size, _, _, rfl, hbase, heap_alloc_new w.drew _, hge, hcm, ?_, ?_⟩⟩, ⟨rfl, rfl, rfl, by simp, fun k hk _ => Below.heap_alloc w.drew _ k hk⟩⟩
    · simp only [Array.size_append, List.size_toArray, size_zeroCells, E.hz, hxn]
      omega
    · rw [hz1]
      simp only [Array.toList_append, toList_zero1]
      rw [← hlen]
      exact List.take_left
  rcases hown.2 with ⟨rfl, rfl⟩ | ⟨g, cap, cur, rfl, hbg, hg, hnc, hcm, hcs, htake⟩
  · have hx : xs = [] := List.eq_nil_of_length_eq_zero hxn
    subst hx
    by_cases hk : k = 0
    · subst hk
      refine ⟨.slice none 0 0, w, ?_, by simpa using World.ownsRow_nil w base e 1, ⟨rfl, rfl, rfl, Nat.le_refl _, fun _ _ _ => rfl⟩⟩
      have hw : IntKind.i64.wrap (0 : Int) = 0 := by rw [IntKind.wrap_i64]; omega
      simp [Builtin.append_, run_underlying ht, run_underlying htn, sizeOf, typeInfo, hi, asInt, asIntOf, hw]
    · have hr := Lib.run_append_nil_zeros (P := P) w t tn ty e i z kq kn ht htn hi hz k (by omega) (by omega) (by omega) (by omega)
      have hgr := grown 0 (by omega) (Value.ownBlock (.slice none 0 0))
      simp only [Nat.zero_add, List.nil_append, Array.empty_append] at hgr ⊢
      exact ⟨_, _, hr, hgr.1, hgr.2⟩
  · by_cases hroom : n + k ≤ cap
    · have hfit : n + k ≤ cur.size := by omega
      have hr := run_append_room_zeros (P := P) w t tn ty e i z kq kn ht htn hi hz hz1 hsz h1 g n cap cur hg k (by omega) (by omega) hroom hfit
      refine ⟨_, _, hr, ⟨hlen, .inr ⟨g, cap, _, rfl, hbg, setRow_heap w g cur _ e _ hg, hroom, hcm, ?_, ?_⟩⟩, ⟨rfl, rfl, rfl, by simp, fun k _ hk => setRow_other w g k _ (fun e => hk (by simp [Value.ownBlock, e]))⟩⟩
      · simp only [List.size_toArray, List.length_append, List.length_take, List.length_drop, Array.length_toList, List.length_replicate]
        omega
      · rw [Nat.mul_one] at htake
        rw [htake, ← hlen]
        exact List.take_left
    · by_cases hk : k = 0
      · omega
      · have holds : ∀ j u, xs[j]? = some u → w.drew.cell? ((⟨g, 0, none⟩ : Addr).add j) = some u := fun j u hu => hown.cells (g := g) rfl j u hu
        have hold := run_firstCells_some (P := P) w.drew i.size n ⟨g, 0, none⟩ n cap xs (by rw [hsz, hxn, Nat.mul_one]) holds
        have hr := Lib.run_append_grow_zeros (P := P) w t tn ty e i z kq kn ht htn hi hz (some ⟨g, 0, none⟩) n cap xs hold k (by omega) (by omega) (by omega) (by omega) (by omega) (growslice_fits (by omega) hbytes)
        have hgr := grown cap (by omega) (Value.ownBlock (.slice (some ⟨g, 0, none⟩) n cap))
        exact ⟨_, _, hr, hgr.1, hgr.2⟩

/-- The operation at a plain list. -/
theorem wpl_app_zeros (E : Elem P t e z 1 bytes) (hz1 : z.cells = #[z]) (h1 : z.oneCell' = true) (w : World) {ops : Array Oper} {rest : List Oper} {o : Oper} {a : Act} {Q : Exit → Act → World → Prop} (hgd : o.guard = none) (s x : Operand) (tn : TypeId) {kq kn : IntKind} (htn : P.underlying tn = some (.int kn))
    (ho : o.op = .call { callee := .builtin .append, args := #[s, x], argTypes := #[t, tn] })
    {base : Nat} {v : Value} {n : Nat} {xs : List Value} (hown : w.ownsRow base e 1 v n xs) (k : Nat) {K : Int} (hs : a.eval s = v) (hx : a.eval x = .int kq K) (hK : K = k) (h63 : n + k ≤ 9223372036854775807) (hbytes : (n + k) * bytes ≤ 140737488355328) (hbase : base ≤ w.heap.size)
    (h : ∀ v' w', w'.ownsRow base e 1 v' (n + k) (xs ++ List.replicate k z) → w.grownBy w' v.ownBlock → wpList P ops Q rest (a.put o.dst v') w') : wpList P ops Q (o :: rest) a w := by
  subst hK
  obtain ⟨v', w', hr, h2, h3⟩ := run_app_zeros E hz1 h1 w tn o.type kq kn htn hown k h63 hbytes hbase
  exact Lib.wpList_append_run w hgd s x t tn ho _ _ hs hx v' w' hr (h v' w' h2 h3)
end
end Go.Proofs.YtejhiekikblbiaaGreatDoor

namespace Go.Proofs.YtejhiekikblbiaaGreatDoor
open Go.RowKit

theorem rot_val (x : UInt32) (n : Nat) (h0 : 0 < n) (h : n < 32) : bits .or .u32 (((x.toNat : Int) * ((2 ^ (32 - n) : Nat) : Int)) % 4294967296) ((x.toNat : Int) / ((2 ^ n : Nat) : Int)) = ((rotr x n).toNat : Int) ∧
    bits .or .u32 ((x.toNat : Int) / ((2 ^ n : Nat) : Int)) (((x.toNat : Int) * ((2 ^ (32 - n) : Nat) : Int)) % 4294967296) = ((rotr x n).toNat : Int) := by
  have hx := x.toNat_lt
  have e1 : ((x.toNat : Int) * ((2 ^ (32 - n) : Nat) : Int)) % 4294967296 = ((x.toNat * 2 ^ (32 - n) % 4294967296 : Nat) : Int) := by
    rw [← Int.natCast_mul]; rfl
  have e2 : ((x.toNat : Int) / ((2 ^ n : Nat) : Int)) = ((x.toNat / 2 ^ n : Nat) : Int) := (Int.natCast_ediv _ _).symm
  have hd : x.toNat / 2 ^ n ≤ x.toNat := Nat.div_le_self _ _
  have n1 : n.toUInt32.toNat % 32 = n := by rw [show n.toUInt32.toNat = n from by rw [Nat.toUInt32, UInt32.toNat_ofNat']; omega]; omega
  have n2 : (32 - n).toUInt32.toNat % 32 = 32 - n := by rw [show (32 - n).toUInt32.toNat = 32 - n from by rw [Nat.toUInt32, UInt32.toNat_ofNat']; omega]; omega
  have key : (rotr x n).toNat = x.toNat / 2 ^ n ||| x.toNat * 2 ^ (32 - n) % 4294967296 := by
    unfold rotr
    rw [UInt32.toNat_or, UInt32.toNat_shiftRight, UInt32.toNat_shiftLeft, n1, n2, Nat.shiftRight_eq_div_pow, Nat.shiftLeft_eq]
  rw [e1, e2, u32_or_nat _ _ (Nat.mod_lt _ (by decide)) (by omega), u32_or_nat _ _ (by omega) (Nat.mod_lt _ (by decide)), key]
  exact ⟨by rw [Nat.or_comm], rfl⟩

set_option maxRecDepth 100000 in
theorem rot2 (x : UInt32) (w : World) : Calls Tryz.prog 171 #[.int .u32 x.toNat, .int .i64 (-2)] w fun e w' => e = .returned (.int .u32 (rotr x 2).toNat) ∧ w' = w := by
  have r : bits .or .u32 ((x.toNat : Int) * 1073741824 % 4294967296) ((x.toNat : Int) / 4) = ((rotr x 2).toNat : Int) := (rot_val x 2 (by decide) (by decide)).1
  have hk : bits BinOp.and IntKind.u64 (IntKind.u64.wrap (-2)) 31 = 30 := by decide
  have hx := x.toNat_lt
  go_enter Tryz.func171, Tryz.ntmps171
  go_wp2
  go_ret
  exact ⟨rfl, rfl⟩
set_option maxRecDepth 100000 in
theorem ror2 (x : UInt32) (w : World) : Calls Tryz.prog 124 #[.int .u32 x.toNat, .int .i64 2] w fun e w' => e = .returned (.int .u32 (rotr x 2).toNat) ∧ w' = w := by
  have r : bits .or .u32 ((x.toNat : Int) / 4) ((x.toNat : Int) * 1073741824 % 4294967296) = ((rotr x 2).toNat : Int) := (rot_val x 2 (by decide) (by decide)).2
  have hx := x.toNat_lt
  go_enter Tryz.func124, Tryz.ntmps124
  go_wp2
  go_ret
  exact ⟨rfl, rfl⟩
set_option maxRecDepth 100000 in
theorem rot6 (x : UInt32) (w : World) : Calls Tryz.prog 171 #[.int .u32 x.toNat, .int .i64 (-6)] w fun e w' => e = .returned (.int .u32 (rotr x 6).toNat) ∧ w' = w := by
  have r : bits .or .u32 ((x.toNat : Int) * 67108864 % 4294967296) ((x.toNat : Int) / 64) = ((rotr x 6).toNat : Int) := (rot_val x 6 (by decide) (by decide)).1
  have hk : bits BinOp.and IntKind.u64 (IntKind.u64.wrap (-6)) 31 = 26 := by decide
  have hx := x.toNat_lt
  go_enter Tryz.func171, Tryz.ntmps171
  go_wp2
  go_ret
  exact ⟨rfl, rfl⟩
set_option maxRecDepth 100000 in
theorem ror6 (x : UInt32) (w : World) : Calls Tryz.prog 124 #[.int .u32 x.toNat, .int .i64 6] w fun e w' => e = .returned (.int .u32 (rotr x 6).toNat) ∧ w' = w := by
  have r : bits .or .u32 ((x.toNat : Int) / 64) ((x.toNat : Int) * 67108864 % 4294967296) = ((rotr x 6).toNat : Int) := (rot_val x 6 (by decide) (by decide)).2
  have hx := x.toNat_lt
  go_enter Tryz.func124, Tryz.ntmps124
  go_wp2
  go_ret
  exact ⟨rfl, rfl⟩
set_option maxRecDepth 100000 in
theorem rot7 (x : UInt32) (w : World) : Calls Tryz.prog 171 #[.int .u32 x.toNat, .int .i64 (-7)] w fun e w' => e = .returned (.int .u32 (rotr x 7).toNat) ∧ w' = w := by
  have r : bits .or .u32 ((x.toNat : Int) * 33554432 % 4294967296) ((x.toNat : Int) / 128) = ((rotr x 7).toNat : Int) := (rot_val x 7 (by decide) (by decide)).1
  have hk : bits BinOp.and IntKind.u64 (IntKind.u64.wrap (-7)) 31 = 25 := by decide
  have hx := x.toNat_lt
  go_enter Tryz.func171, Tryz.ntmps171
  go_wp2
  go_ret
  exact ⟨rfl, rfl⟩
set_option maxRecDepth 100000 in
theorem ror7 (x : UInt32) (w : World) : Calls Tryz.prog 124 #[.int .u32 x.toNat, .int .i64 7] w fun e w' => e = .returned (.int .u32 (rotr x 7).toNat) ∧ w' = w := by
  have r : bits .or .u32 ((x.toNat : Int) / 128) ((x.toNat : Int) * 33554432 % 4294967296) = ((rotr x 7).toNat : Int) := (rot_val x 7 (by decide) (by decide)).2
  have hx := x.toNat_lt
  go_enter Tryz.func124, Tryz.ntmps124
  go_wp2
  go_ret
  exact ⟨rfl, rfl⟩
set_option maxRecDepth 100000 in
theorem rot11 (x : UInt32) (w : World) : Calls Tryz.prog 171 #[.int .u32 x.toNat, .int .i64 (-11)] w fun e w' => e = .returned (.int .u32 (rotr x 11).toNat) ∧ w' = w := by
  have r : bits .or .u32 ((x.toNat : Int) * 2097152 % 4294967296) ((x.toNat : Int) / 2048) = ((rotr x 11).toNat : Int) := (rot_val x 11 (by decide) (by decide)).1
  have hk : bits BinOp.and IntKind.u64 (IntKind.u64.wrap (-11)) 31 = 21 := by decide
  have hx := x.toNat_lt
  go_enter Tryz.func171, Tryz.ntmps171
  go_wp2
  go_ret
  exact ⟨rfl, rfl⟩
set_option maxRecDepth 100000 in
theorem ror11 (x : UInt32) (w : World) : Calls Tryz.prog 124 #[.int .u32 x.toNat, .int .i64 11] w fun e w' => e = .returned (.int .u32 (rotr x 11).toNat) ∧ w' = w := by
  have r : bits .or .u32 ((x.toNat : Int) / 2048) ((x.toNat : Int) * 2097152 % 4294967296) = ((rotr x 11).toNat : Int) := (rot_val x 11 (by decide) (by decide)).2
  have hx := x.toNat_lt
  go_enter Tryz.func124, Tryz.ntmps124
  go_wp2
  go_ret
  exact ⟨rfl, rfl⟩
set_option maxRecDepth 100000 in
theorem rot13 (x : UInt32) (w : World) : Calls Tryz.prog 171 #[.int .u32 x.toNat, .int .i64 (-13)] w fun e w' => e = .returned (.int .u32 (rotr x 13).toNat) ∧ w' = w := by
  have r : bits .or .u32 ((x.toNat : Int) * 524288 % 4294967296) ((x.toNat : Int) / 8192) = ((rotr x 13).toNat : Int) := (rot_val x 13 (by decide) (by decide)).1
  have hk : bits BinOp.and IntKind.u64 (IntKind.u64.wrap (-13)) 31 = 19 := by decide
  have hx := x.toNat_lt
  go_enter Tryz.func171, Tryz.ntmps171
  go_wp2
  go_ret
  exact ⟨rfl, rfl⟩
set_option maxRecDepth 100000 in
theorem ror13 (x : UInt32) (w : World) : Calls Tryz.prog 124 #[.int .u32 x.toNat, .int .i64 13] w fun e w' => e = .returned (.int .u32 (rotr x 13).toNat) ∧ w' = w := by
  have r : bits .or .u32 ((x.toNat : Int) / 8192) ((x.toNat : Int) * 524288 % 4294967296) = ((rotr x 13).toNat : Int) := (rot_val x 13 (by decide) (by decide)).2
  have hx := x.toNat_lt
  go_enter Tryz.func124, Tryz.ntmps124
  go_wp2
  go_ret
  exact ⟨rfl, rfl⟩
set_option maxRecDepth 100000 in
theorem rot17 (x : UInt32) (w : World) : Calls Tryz.prog 171 #[.int .u32 x.toNat, .int .i64 (-17)] w fun e w' => e = .returned (.int .u32 (rotr x 17).toNat) ∧ w' = w := by
  have r : bits .or .u32 ((x.toNat : Int) * 32768 % 4294967296) ((x.toNat : Int) / 131072) = ((rotr x 17).toNat : Int) := (rot_val x 17 (by decide) (by decide)).1
  have hk : bits BinOp.and IntKind.u64 (IntKind.u64.wrap (-17)) 31 = 15 := by decide
  have hx := x.toNat_lt
  go_enter Tryz.func171, Tryz.ntmps171
  go_wp2
  go_ret
  exact ⟨rfl, rfl⟩
set_option maxRecDepth 100000 in
theorem ror17 (x : UInt32) (w : World) : Calls Tryz.prog 124 #[.int .u32 x.toNat, .int .i64 17] w fun e w' => e = .returned (.int .u32 (rotr x 17).toNat) ∧ w' = w := by
  have r : bits .or .u32 ((x.toNat : Int) / 131072) ((x.toNat : Int) * 32768 % 4294967296) = ((rotr x 17).toNat : Int) := (rot_val x 17 (by decide) (by decide)).2
  have hx := x.toNat_lt
  go_enter Tryz.func124, Tryz.ntmps124
  go_wp2
  go_ret
  exact ⟨rfl, rfl⟩
set_option maxRecDepth 100000 in
theorem rot18 (x : UInt32) (w : World) : Calls Tryz.prog 171 #[.int .u32 x.toNat, .int .i64 (-18)] w fun e w' => e = .returned (.int .u32 (rotr x 18).toNat) ∧ w' = w := by
  have r : bits .or .u32 ((x.toNat : Int) * 16384 % 4294967296) ((x.toNat : Int) / 262144) = ((rotr x 18).toNat : Int) := (rot_val x 18 (by decide) (by decide)).1
  have hk : bits BinOp.and IntKind.u64 (IntKind.u64.wrap (-18)) 31 = 14 := by decide
  have hx := x.toNat_lt
  go_enter Tryz.func171, Tryz.ntmps171
  go_wp2
  go_ret
  exact ⟨rfl, rfl⟩
set_option maxRecDepth 100000 in
theorem ror18 (x : UInt32) (w : World) : Calls Tryz.prog 124 #[.int .u32 x.toNat, .int .i64 18] w fun e w' => e = .returned (.int .u32 (rotr x 18).toNat) ∧ w' = w := by
  have r : bits .or .u32 ((x.toNat : Int) / 262144) ((x.toNat : Int) * 16384 % 4294967296) = ((rotr x 18).toNat : Int) := (rot_val x 18 (by decide) (by decide)).2
  have hx := x.toNat_lt
  go_enter Tryz.func124, Tryz.ntmps124
  go_wp2
  go_ret
  exact ⟨rfl, rfl⟩
set_option maxRecDepth 100000 in
theorem rot19 (x : UInt32) (w : World) : Calls Tryz.prog 171 #[.int .u32 x.toNat, .int .i64 (-19)] w fun e w' => e = .returned (.int .u32 (rotr x 19).toNat) ∧ w' = w := by
  have r : bits .or .u32 ((x.toNat : Int) * 8192 % 4294967296) ((x.toNat : Int) / 524288) = ((rotr x 19).toNat : Int) := (rot_val x 19 (by decide) (by decide)).1
  have hk : bits BinOp.and IntKind.u64 (IntKind.u64.wrap (-19)) 31 = 13 := by decide
  have hx := x.toNat_lt
  go_enter Tryz.func171, Tryz.ntmps171
  go_wp2
  go_ret
  exact ⟨rfl, rfl⟩
set_option maxRecDepth 100000 in
theorem ror19 (x : UInt32) (w : World) : Calls Tryz.prog 124 #[.int .u32 x.toNat, .int .i64 19] w fun e w' => e = .returned (.int .u32 (rotr x 19).toNat) ∧ w' = w := by
  have r : bits .or .u32 ((x.toNat : Int) / 524288) ((x.toNat : Int) * 8192 % 4294967296) = ((rotr x 19).toNat : Int) := (rot_val x 19 (by decide) (by decide)).2
  have hx := x.toNat_lt
  go_enter Tryz.func124, Tryz.ntmps124
  go_wp2
  go_ret
  exact ⟨rfl, rfl⟩
set_option maxRecDepth 100000 in
theorem rot22 (x : UInt32) (w : World) : Calls Tryz.prog 171 #[.int .u32 x.toNat, .int .i64 (-22)] w fun e w' => e = .returned (.int .u32 (rotr x 22).toNat) ∧ w' = w := by
  have r : bits .or .u32 ((x.toNat : Int) * 1024 % 4294967296) ((x.toNat : Int) / 4194304) = ((rotr x 22).toNat : Int) := (rot_val x 22 (by decide) (by decide)).1
  have hk : bits BinOp.and IntKind.u64 (IntKind.u64.wrap (-22)) 31 = 10 := by decide
  have hx := x.toNat_lt
  go_enter Tryz.func171, Tryz.ntmps171
  go_wp2
  go_ret
  exact ⟨rfl, rfl⟩
set_option maxRecDepth 100000 in
theorem ror22 (x : UInt32) (w : World) : Calls Tryz.prog 124 #[.int .u32 x.toNat, .int .i64 22] w fun e w' => e = .returned (.int .u32 (rotr x 22).toNat) ∧ w' = w := by
  have r : bits .or .u32 ((x.toNat : Int) / 4194304) ((x.toNat : Int) * 1024 % 4294967296) = ((rotr x 22).toNat : Int) := (rot_val x 22 (by decide) (by decide)).2
  have hx := x.toNat_lt
  go_enter Tryz.func124, Tryz.ntmps124
  go_wp2
  go_ret
  exact ⟨rfl, rfl⟩
set_option maxRecDepth 100000 in
theorem rot25 (x : UInt32) (w : World) : Calls Tryz.prog 171 #[.int .u32 x.toNat, .int .i64 (-25)] w fun e w' => e = .returned (.int .u32 (rotr x 25).toNat) ∧ w' = w := by
  have r : bits .or .u32 ((x.toNat : Int) * 128 % 4294967296) ((x.toNat : Int) / 33554432) = ((rotr x 25).toNat : Int) := (rot_val x 25 (by decide) (by decide)).1
  have hk : bits BinOp.and IntKind.u64 (IntKind.u64.wrap (-25)) 31 = 7 := by decide
  have hx := x.toNat_lt
  go_enter Tryz.func171, Tryz.ntmps171
  go_wp2
  go_ret
  exact ⟨rfl, rfl⟩
set_option maxRecDepth 100000 in
theorem ror25 (x : UInt32) (w : World) : Calls Tryz.prog 124 #[.int .u32 x.toNat, .int .i64 25] w fun e w' => e = .returned (.int .u32 (rotr x 25).toNat) ∧ w' = w := by
  have r : bits .or .u32 ((x.toNat : Int) / 33554432) ((x.toNat : Int) * 128 % 4294967296) = ((rotr x 25).toNat : Int) := (rot_val x 25 (by decide) (by decide)).2
  have hx := x.toNat_lt
  go_enter Tryz.func124, Tryz.ntmps124
  go_wp2
  go_ret
  exact ⟨rfl, rfl⟩
end Go.Proofs.YtejhiekikblbiaaGreatDoor

namespace Go.Proofs.YtejhiekikblbiaaGreatDoor
open Go.RowKit

theorem ofL_at (s : List UInt8) (i : Nat) (h : i < (ofL s).size) : (ofL s)[i]'h = s.getD i 0 := by
  have h' : i < s.length := by rw [← size_ofL s]; exact h
  rw [toL_get _ _ h, List.getD_eq_getElem?_getD, List.getElem?_eq_getElem h']
  simp [toL_ofL]
theorem u8_32 (b : UInt8) : b.toUInt32.toNat = b.toNat := by simp
set_option maxRecDepth 100000 in
theorem or3_nat (A B C D : Nat) (hA : A < 256) (hB : B < 256) (hC : C < 256) (hD : D < 256) :
    bits .or .u32 (bits .or .u32 (bits .or .u32 ((A : Int) * 16777216) ((B : Int) * 65536)) ((C : Int) * 256)) (D : Int) = ((((A * 16777216 ||| B * 65536) ||| C * 256) ||| D : Nat) : Int) := by
  have l : ∀ p q : Nat, p < 4294967296 → q < 4294967296 → p ||| q < 4294967296 := fun p q hp hq => Nat.or_lt_two_pow (n := 32) hp hq
  have h1 : A * 16777216 < 4294967296 := Nat.mul_lt_mul_of_pos_right (show A < 256 from hA) (by decide)
  have h2 : B * 65536 < 4294967296 := Nat.lt_of_lt_of_le (Nat.mul_lt_mul_of_pos_right hB (by decide)) (by decide)
  have h3 : C * 256 < 4294967296 := Nat.lt_of_lt_of_le (Nat.mul_lt_mul_of_pos_right hC (by decide)) (by decide)
  have h4 : D < 4294967296 := Nat.lt_of_lt_of_le hD (by decide)
  rw [show ((A : Int) * 16777216) = ((A * 16777216 : Nat) : Int) from (Int.natCast_mul A 16777216).symm, show ((B : Int) * 65536) = ((B * 65536 : Nat) : Int) from (Int.natCast_mul B 65536).symm, show ((C : Int) * 256) = ((C * 256 : Nat) : Int) from (Int.natCast_mul C 256).symm]
  rw [u32_or_nat _ _ h1 h2, u32_or_nat _ _ (l _ _ h1 h2) h3, u32_or_nat _ _ (l _ _ (l _ _ h1 h2) h3) h4]
theorem shl_nat (a : UInt8) (k : UInt32) (n : Nat) (hk : k.toNat % 32 = n) (hn : n ≤ 24) : (a.toUInt32 <<< k).toNat = a.toNat * 2 ^ n := by
  rw [UInt32.toNat_shiftLeft, u8_32, hk, Nat.shiftLeft_eq]
  have h1 : 2 ^ n ≤ 2 ^ 24 := Nat.pow_le_pow_right (by decide) hn
  have h2 := a.toNat_lt
  have h3 : a.toNat * 2 ^ n ≤ 255 * 2 ^ 24 := Nat.mul_le_mul (by omega) h1
  exact Nat.mod_eq_of_lt (Nat.lt_of_le_of_lt h3 (by decide))
theorem word_val (a b c d : UInt8) :
    bits .or .u32 (bits .or .u32 (bits .or .u32 ((a.toNat : Int) * 16777216) ((b.toNat : Int) * 65536)) ((c.toNat : Int) * 256)) (d.toNat : Int) =
    (((a.toUInt32 <<< 24) ||| (b.toUInt32 <<< 16) ||| (c.toUInt32 <<< 8) ||| d.toUInt32).toNat : Int) := by
  rw [or3_nat _ _ _ _ a.toNat_lt b.toNat_lt c.toNat_lt d.toNat_lt, UInt32.toNat_or, UInt32.toNat_or, UInt32.toNat_or, shl_nat a 24 24 (by decide) (by decide), shl_nat b 16 16 (by decide) (by decide), shl_nat c 8 8 (by decide) (by decide), u8_32]

set_option maxRecDepth 100000 in
set_option maxHeartbeats 1000000 in
theorem word_any (s : List UInt8) (w : World) (hs : 4 ≤ s.length) : Calls Tryz.prog 176 #[.string (ofL s)] w fun e w' => e = .returned (.int .u32 (word4 s).toNat) ∧ Ext w w' := by
  have hsz : (ofL s).size = s.length := size_ofL _
  obtain ⟨a, ha⟩ : ∃ a, s.getD 0 0 = a := ⟨_, rfl⟩
  obtain ⟨b, hb⟩ : ∃ a, s.getD 1 0 = a := ⟨_, rfl⟩
  obtain ⟨c, hc⟩ : ∃ a, s.getD 2 0 = a := ⟨_, rfl⟩
  obtain ⟨d, hd⟩ : ∃ a, s.getD 3 0 = a := ⟨_, rfl⟩
  have g0 : ∀ h, (ofL s)[0]'h = a := fun h => by rw [← ha, ofL_at]
  have g1 : ∀ h, (ofL s)[1]'h = b := fun h => by rw [← hb, ofL_at]
  have g2 : ∀ h, (ofL s)[2]'h = c := fun h => by rw [← hc, ofL_at]
  have g3 : ∀ h, (ofL s)[3]'h = d := fun h => by rw [← hd, ofL_at]
  have v := word_val a b c d
  have hw : word4 s = (a.toUInt32 <<< 24) ||| (b.toUInt32 <<< 16) ||| (c.toUInt32 <<< 8) ||| d.toUInt32 := by unfold word4; rw [ha, hb, hc, hd]
  rw [← hw] at v
  have b1 := a.toNat_lt; have b2 := b.toNat_lt; have b3 := c.toNat_lt; have b4 := d.toNat_lt
  have i1 : (0 : Int) < s.length := by omega
  have i2 : (1 : Int) < s.length := by omega
  have i3 : (2 : Int) < s.length := by omega
  have i4 : (3 : Int) < s.length := by omega
  clear ha hb hc hd hw hs
  go_enter Tryz.func176, Tryz.ntmps176
  go_upto_region 1 with fail
  go_quiet (fail)
  go_wp2

  go_ret
  exact ⟨rfl, (Ext.rfl' _).drN _⟩
end Go.Proofs.YtejhiekikblbiaaGreatDoor

namespace Go.Proofs.YtejhiekikblbiaaGreatDoor
open Go.RowKit

/-- Eight words as cells. -/
abbrev stCells (v : St) : Array Value := #[.int .u32 v.a.toNat, .int .u32 v.b.toNat, .int .u32 v.c.toNat, .int .u32 v.d.toNat, .int .u32 v.e.toNat, .int .u32 v.f.toNat, .int .u32 v.g.toNat, .int .u32 v.h.toNat]
abbrev stV (v : St) : Value := .agg (stCells v)

set_option maxRecDepth 100000 in
set_option maxHeartbeats 1000000 in
theorem first_any (w : World) : Calls Tryz.prog 137 #[] w fun e w' => e = .returned (stV initS) ∧ Ext w w' := by
  go_enter Tryz.func137, Tryz.ntmps137
  go_wp2
  refine bodyPost_ret (v := stV initS) (by simp [results, Tryz.results137, go_sem]; decide) rfl ?_
  exact ⟨rfl, (Ext.rfl' _).al _⟩

theorem tell_cell (x : UInt32) : (tell4 x).map U8 = [.int .u8 ((x.toNat : Int) / 16777216 % 256), .int .u8 ((x.toNat : Int) / 65536 % 256), .int .u8 ((x.toNat : Int) / 256 % 256), .int .u8 ((x.toNat : Int) % 256)] := by
  have k : ∀ (y : UInt32), U8 y.toUInt8 = .int .u8 ((y.toNat : Int) % 256) := fun y => by
    unfold U8
    rw [UInt32.toNat_toUInt8]
    congr 1
  have s1 : (24 : UInt32).toNat % 32 = 24 := by decide
  have s2 : (16 : UInt32).toNat % 32 = 16 := by decide
  have s3 : (8 : UInt32).toNat % 32 = 8 := by decide
  unfold tell4
  simp only [List.map_cons, List.map_nil, k, UInt32.toNat_shiftRight, s1, s2, s3, Nat.shiftRight_eq_div_pow]
  rfl

set_option maxRecDepth 100000 in
set_option maxHeartbeats 4000000 in
theorem tell_any (v : St) (w : World) : Calls Tryz.prog 135 #[stV v] w fun e w' => e = .returned (.string (ofL (tellS v))) ∧ Ext w w' := by
  obtain ⟨a, b, c, d, e, f, g, h⟩ := v
  have i0 : ∀ W, (Instr.index 183 (stV ⟨a, b, c, d, e, f, g, h⟩) (.int .i64 0)).run Tryz.prog W = .ok (.int .u32 a.toNat) W := fun W => by
    simp [Instr.index, run_underlying Tryz.underlying183, asIntOf, go_sem]
  have i1 : ∀ W, (Instr.index 183 (stV ⟨a, b, c, d, e, f, g, h⟩) (.int .i64 1)).run Tryz.prog W = .ok (.int .u32 b.toNat) W := fun W => by
    simp [Instr.index, run_underlying Tryz.underlying183, asIntOf, go_sem]
  have i2 : ∀ W, (Instr.index 183 (stV ⟨a, b, c, d, e, f, g, h⟩) (.int .i64 2)).run Tryz.prog W = .ok (.int .u32 c.toNat) W := fun W => by
    simp [Instr.index, run_underlying Tryz.underlying183, asIntOf, go_sem]
  have i3 : ∀ W, (Instr.index 183 (stV ⟨a, b, c, d, e, f, g, h⟩) (.int .i64 3)).run Tryz.prog W = .ok (.int .u32 d.toNat) W := fun W => by
    simp [Instr.index, run_underlying Tryz.underlying183, asIntOf, go_sem]
  have i4 : ∀ W, (Instr.index 183 (stV ⟨a, b, c, d, e, f, g, h⟩) (.int .i64 4)).run Tryz.prog W = .ok (.int .u32 e.toNat) W := fun W => by
    simp [Instr.index, run_underlying Tryz.underlying183, asIntOf, go_sem]
  have i5 : ∀ W, (Instr.index 183 (stV ⟨a, b, c, d, e, f, g, h⟩) (.int .i64 5)).run Tryz.prog W = .ok (.int .u32 f.toNat) W := fun W => by
    simp [Instr.index, run_underlying Tryz.underlying183, asIntOf, go_sem]
  have i6 : ∀ W, (Instr.index 183 (stV ⟨a, b, c, d, e, f, g, h⟩) (.int .i64 6)).run Tryz.prog W = .ok (.int .u32 g.toNat) W := fun W => by
    simp [Instr.index, run_underlying Tryz.underlying183, asIntOf, go_sem]
  have i7 : ∀ W, (Instr.index 183 (stV ⟨a, b, c, d, e, f, g, h⟩) (.int .i64 7)).run Tryz.prog W = .ok (.int .u32 h.toNat) W := fun W => by
    simp [Instr.index, run_underlying Tryz.underlying183, asIntOf, go_sem]
  have hl : (tellS ⟨a, b, c, d, e, f, g, h⟩).map U8 = [.int .u8 ((a.toNat : Int) / 16777216 % 256), .int .u8 ((a.toNat : Int) / 65536 % 256), .int .u8 ((a.toNat : Int) / 256 % 256), .int .u8 ((a.toNat : Int) % 256), .int .u8 ((b.toNat : Int) / 16777216 % 256), .int .u8 ((b.toNat : Int) / 65536 % 256), .int .u8 ((b.toNat : Int) / 256 % 256), .int .u8 ((b.toNat : Int) % 256), .int .u8 ((c.toNat : Int) / 16777216 % 256), .int .u8 ((c.toNat : Int) / 65536 % 256), .int .u8 ((c.toNat : Int) / 256 % 256), .int .u8 ((c.toNat : Int) % 256), .int .u8 ((d.toNat : Int) / 16777216 % 256), .int .u8 ((d.toNat : Int) / 65536 % 256), .int .u8 ((d.toNat : Int) / 256 % 256), .int .u8 ((d.toNat : Int) % 256), .int .u8 ((e.toNat : Int) / 16777216 % 256), .int .u8 ((e.toNat : Int) / 65536 % 256), .int .u8 ((e.toNat : Int) / 256 % 256), .int .u8 ((e.toNat : Int) % 256), .int .u8 ((f.toNat : Int) / 16777216 % 256), .int .u8 ((f.toNat : Int) / 65536 % 256), .int .u8 ((f.toNat : Int) / 256 % 256), .int .u8 ((f.toNat : Int) % 256), .int .u8 ((g.toNat : Int) / 16777216 % 256), .int .u8 ((g.toNat : Int) / 65536 % 256), .int .u8 ((g.toNat : Int) / 256 % 256), .int .u8 ((g.toNat : Int) % 256), .int .u8 ((h.toNat : Int) / 16777216 % 256), .int .u8 ((h.toNat : Int) / 65536 % 256), .int .u8 ((h.toNat : Int) / 256 % 256), .int .u8 ((h.toNat : Int) % 256)] := by
    unfold tellS
    simp only [List.map_append, tell_cell]
    rfl
  have hw : ∀ (w1 : World) (j : Nat) (u : Value), ((tellS ⟨a, b, c, d, e, f, g, h⟩).map U8)[j]? = some u → (w1.alloc (.cells #[.int .u8 ((a.toNat : Int) / 16777216 % 256), .int .u8 ((a.toNat : Int) / 65536 % 256), .int .u8 ((a.toNat : Int) / 256 % 256), .int .u8 ((a.toNat : Int) % 256), .int .u8 ((b.toNat : Int) / 16777216 % 256), .int .u8 ((b.toNat : Int) / 65536 % 256), .int .u8 ((b.toNat : Int) / 256 % 256), .int .u8 ((b.toNat : Int) % 256), .int .u8 ((c.toNat : Int) / 16777216 % 256), .int .u8 ((c.toNat : Int) / 65536 % 256), .int .u8 ((c.toNat : Int) / 256 % 256), .int .u8 ((c.toNat : Int) % 256), .int .u8 ((d.toNat : Int) / 16777216 % 256), .int .u8 ((d.toNat : Int) / 65536 % 256), .int .u8 ((d.toNat : Int) / 256 % 256), .int .u8 ((d.toNat : Int) % 256), .int .u8 ((e.toNat : Int) / 16777216 % 256), .int .u8 ((e.toNat : Int) / 65536 % 256), .int .u8 ((e.toNat : Int) / 256 % 256), .int .u8 ((e.toNat : Int) % 256), .int .u8 ((f.toNat : Int) / 16777216 % 256), .int .u8 ((f.toNat : Int) / 65536 % 256), .int .u8 ((f.toNat : Int) / 256 % 256), .int .u8 ((f.toNat : Int) % 256), .int .u8 ((g.toNat : Int) / 16777216 % 256), .int .u8 ((g.toNat : Int) / 65536 % 256), .int .u8 ((g.toNat : Int) / 256 % 256), .int .u8 ((g.toNat : Int) % 256), .int .u8 ((h.toNat : Int) / 16777216 % 256), .int .u8 ((h.toNat : Int) / 65536 % 256), .int .u8 ((h.toNat : Int) / 256 % 256), .int .u8 ((h.toNat : Int) % 256)] 205)).cell? ((⟨w1.heap.size, 0, none⟩ : Addr).add j) = some u := by
    intro w1 j u hu
    rw [hl] at hu
    rw [WideShapes.add_plain]
    refine (cell_of_row _ w1.heap.size _ _ _ _ (heap_alloc_new w1 _)).trans ?_
    rw [Nat.zero_add]
    simpa using hu
  obtain ⟨w1, hw1⟩ : ∃ w1, w1 = w.alloc (.cells (stCells ⟨a, b, c, d, e, f, g, h⟩) 183) := ⟨_, rfl⟩
  have hz1 : w1.heap.size = w.heap.size + 1 := by rw [hw1]; simp
  have E1 : Ext w w1 := by rw [hw1]; exact (Ext.rfl' _).al _
  have hs : (convert 99 9 (.slice (some ⟨w1.heap.size, 0, none⟩) 32 32)).run Tryz.prog (w1.alloc (.cells #[.int .u8 ((a.toNat : Int) / 16777216 % 256), .int .u8 ((a.toNat : Int) / 65536 % 256), .int .u8 ((a.toNat : Int) / 256 % 256), .int .u8 ((a.toNat : Int) % 256), .int .u8 ((b.toNat : Int) / 16777216 % 256), .int .u8 ((b.toNat : Int) / 65536 % 256), .int .u8 ((b.toNat : Int) / 256 % 256), .int .u8 ((b.toNat : Int) % 256), .int .u8 ((c.toNat : Int) / 16777216 % 256), .int .u8 ((c.toNat : Int) / 65536 % 256), .int .u8 ((c.toNat : Int) / 256 % 256), .int .u8 ((c.toNat : Int) % 256), .int .u8 ((d.toNat : Int) / 16777216 % 256), .int .u8 ((d.toNat : Int) / 65536 % 256), .int .u8 ((d.toNat : Int) / 256 % 256), .int .u8 ((d.toNat : Int) % 256), .int .u8 ((e.toNat : Int) / 16777216 % 256), .int .u8 ((e.toNat : Int) / 65536 % 256), .int .u8 ((e.toNat : Int) / 256 % 256), .int .u8 ((e.toNat : Int) % 256), .int .u8 ((f.toNat : Int) / 16777216 % 256), .int .u8 ((f.toNat : Int) / 65536 % 256), .int .u8 ((f.toNat : Int) / 256 % 256), .int .u8 ((f.toNat : Int) % 256), .int .u8 ((g.toNat : Int) / 16777216 % 256), .int .u8 ((g.toNat : Int) / 65536 % 256), .int .u8 ((g.toNat : Int) / 256 % 256), .int .u8 ((g.toNat : Int) % 256), .int .u8 ((h.toNat : Int) / 16777216 % 256), .int .u8 ((h.toNat : Int) / 65536 % 256), .int .u8 ((h.toNat : Int) / 256 % 256), .int .u8 ((h.toNat : Int) % 256)] 205)) = .ok (.string (ofL (tellS ⟨a, b, c, d, e, f, g, h⟩))) _ :=
    run_str_cells _ _ _ _ Tryz.underlying99 Tryz.underlying5 Tryz.underlying9 ⟨w1.heap.size, 0, none⟩ 32 32 (tellS ⟨a, b, c, d, e, f, g, h⟩) (length_tellS _) (hw w1)
  clear hw hl
  rw [hz1] at hs
  have HS := Lib.hid hs; clear hs
  have HW1 := Lib.hid hw1
  clear hz1
  have I0 := Lib.hid i0; clear i0
  have I1 := Lib.hid i1; clear i1
  have I2 := Lib.hid i2; clear i2
  have I3 := Lib.hid i3; clear i3
  have I4 := Lib.hid i4; clear i4
  have I5 := Lib.hid i5; clear i5
  have I6 := Lib.hid i6; clear i6
  have I7 := Lib.hid i7; clear i7
  have hc : ∀ W, Ext w1 W → W.heap[w.heap.size]? = some (.cells (stCells ⟨a, b, c, d, e, f, g, h⟩) 183 (0, 0)) := fun W h => (h.block w.heap.size (by rw [hw1]; simp)).trans (by rw [hw1]; exact heap_alloc_new w _)
  clear hc hw1
  go_enter Tryz.func135, Tryz.ntmps135
  go_wp2
  refine wp_loop_rounds 9 ?_
  rw [rounds_succ]
  have ii := I0.out
  clear I0
  go_wp2
  clear ii
  rw [rounds_succ]
  have ii := I1.out
  clear I1
  go_wp2
  clear ii
  rw [rounds_succ]
  have ii := I2.out
  clear I2
  go_wp2
  clear ii
  rw [rounds_succ]
  have ii := I3.out
  clear I3
  go_wp2
  clear ii
  rw [rounds_succ]
  have ii := I4.out
  clear I4
  go_wp2
  clear ii
  rw [rounds_succ]
  have ii := I5.out
  clear I5
  go_wp2
  clear ii
  rw [rounds_succ]
  have ii := I6.out
  clear I6
  go_wp2
  clear ii
  rw [rounds_succ]
  have ii := I7.out
  clear I7
  go_wp2
  clear ii
  rw [rounds_succ]
  have hs := HS.out
  rw [HW1.out] at hs
  go_wp2
  go_ret
  exact ⟨rfl, ((Ext.rfl' _).al _).al _⟩
end Go.Proofs.YtejhiekikblbiaaGreatDoor

namespace Go.Proofs.YtejhiekikblbiaaGreatDoor
open Go.RowKit

set_option maxRecDepth 100000 in
set_option maxHeartbeats 1000000 in
theorem rfirst_any (w : World) : Calls Tryz.prog 95 #[] w fun e w' => e = .returned (stV initS) ∧ Ext w w' := by
  go_enter Tryz.func95, Tryz.ntmps95
  go_wp2
  refine bodyPost_ret (v := stV initS) (by simp [results, Tryz.results95, go_sem]; decide) rfl ?_
  exact ⟨rfl, (Ext.rfl' _).al _⟩

end Go.Proofs.YtejhiekikblbiaaGreatDoor

namespace Go.Proofs.YtejhiekikblbiaaGreatDoor

theorem drop_cons {α : Type} (l : List α) (k : Nat) (h : k < l.length) : l.drop k = l[k] :: l.drop (k + 1) := List.drop_eq_getElem_cons h
theorem drop_all {α : Type} (l : List α) (k : Nat) (h : ¬ k < l.length) : l.drop k = [] := List.drop_of_length_le (by omega)
theorem dropL (a : ByteArray) (k : Nat) (h : k < a.size) : (toL a).drop k = a[k] :: (toL a).drop (k + 1) := by
  rw [drop_cons (toL a) k (by rw [length_toL]; exact h), toL_get a k h]
theorem dropE (a : ByteArray) (k : Nat) (h : ¬ k < a.size) : (toL a).drop k = [] := drop_all _ _ (by rw [length_toL]; exact h)
theorem set_fill (l : List UInt8) (n : Nat) (x : UInt8) (h : l.length < n) : ((l ++ List.replicate (n - l.length) 0).map U8).set l.length (U8 x) = ((l ++ [x]) ++ List.replicate (n - (l ++ [x]).length) 0).map U8 := by
  obtain ⟨m, hm⟩ : ∃ m, n - l.length = m + 1 := ⟨n - l.length - 1, by omega⟩
  have : n - (l ++ [x]).length = m := by simp; omega
  rw [this, hm, List.replicate_succ, ← List.map_set]
  congr 1
  simp

/-! ### xor -/
def xorL (a b : List UInt8) : List UInt8 := List.zipWith (fun x y => x ^^^ y) a b
theorem xorL_cons (x y : UInt8) (a b : List UInt8) : xorL (x :: a) (y :: b) = (x ^^^ y) :: xorL a b := rfl
theorem xorL_nil_left (b : List UInt8) : xorL [] b = [] := rfl
theorem xorL_nil_right (a : List UInt8) : xorL a [] = [] := by unfold xorL; simp
theorem length_xorL (a b : List UInt8) : (xorL a b).length = min a.length b.length := by simp [xorL]
theorem U8_xor (x y : UInt8) : U8 (x ^^^ y) = .int .u8 (bits .xor .u8 (x.toNat : Int) (y.toNat : Int)) := by
  rw [u8_xor_nat _ _ x.toNat_lt y.toNat_lt]; rfl
def xr (x y : Nat) : Nat → Nat
  | 0 => 0
  | k + 1 => xr x y k + if x / 2 ^ k % 2 = y / 2 ^ k % 2 then 0 else 2 ^ k
theorem xr_eq (x y : Nat) : ∀ k, xr x y k = (x ^^^ y) % 2 ^ k
  | 0 => by simp [xr, Nat.mod_one]
  | k + 1 => by
    have h := Nat.testBit_xor x y k
    rw [Nat.testBit_eq_decide_div_mod_eq, Nat.testBit_eq_decide_div_mod_eq, Nat.testBit_eq_decide_div_mod_eq] at h
    rw [xr, xr_eq x y k, Nat.mod_pow_succ]
    have h1 := Nat.mod_two_eq_zero_or_one ((x ^^^ y) / 2 ^ k)
    have h2 := Nat.mod_two_eq_zero_or_one (x / 2 ^ k)
    have h3 := Nat.mod_two_eq_zero_or_one (y / 2 ^ k)
    rcases h1 with h1 | h1 <;> rcases h2 with h2 | h2 <;> rcases h3 with h3 | h3 <;> simp [h1, h2, h3] at h ⊢
theorem xr_byte (x y : UInt8) : xr x.toNat y.toNat 8 = (x ^^^ y).toNat := by
  rw [xr_eq, UInt8.toNat_xor]
  exact Nat.mod_eq_of_lt (by have := (x ^^^ y).toNat_lt; rw [UInt8.toNat_xor] at this; omega)
theorem byte_of_nat (x : UInt8) : byteOf (x.toNat : Int) = x := by
  have := x.toNat_lt
  unfold byteOf
  rw [Int.emod_eq_of_lt (by omega) (by omega)]
  simp
theorem byteOf_nat (n : Nat) (h : n < 256) : byteOf (n : Int) = n.toUInt8 := by
  unfold byteOf
  rw [Int.emod_eq_of_lt (by omega) (by omega)]
  simp
theorem xr_step (x y k : Nat) : xr x y (k + 1) = if x / 2 ^ k % 2 = y / 2 ^ k % 2 then xr x y k else xr x y k + 2 ^ k := by
  rw [xr]; split <;> simp
theorem xr_le (x y k : Nat) : xr x y k < 2 ^ k := by rw [xr_eq]; exact Nat.mod_lt _ (Nat.two_pow_pos k)
theorem xorL_self (a b : List UInt8) : xorL (xorL a b) b = a.take (min a.length b.length) := by
  induction a generalizing b with
  | nil => simp [xorL]
  | cons x a ih =>
    cases b with
    | nil => simp [xorL]
    | cons y b => rw [xorL_cons, xorL_cons, ih]; simp [UInt8.xor_assoc]
theorem xorL_comm (a b : List UInt8) : xorL a b = xorL b a := by
  unfold xorL
  rw [List.zipWith_comm]
  congr 1
  funext x y
  exact UInt8.xor_comm _ _

theorem xor_zero (a b : Nat) : a ^^^ b = 0 ↔ a = b := by
  constructor
  · intro h
    apply Nat.eq_of_testBit_eq
    intro i
    have := congrArg (fun n => Nat.testBit n i) h
    simpa [Nat.testBit_xor] using this
  · rintro rfl; simp
theorem byte_eq {a b : UInt8} (h : a = b) : ((a.toNat : Int) != b.toNat) = false := by simp [h]
theorem byte_ne {a b : UInt8} (h : ¬ a = b) : ((a.toNat : Int) != b.toNat) = true := by
  have : ¬ a.toNat = b.toNat := fun e => h (UInt8.toNat_inj.1 e)
  simp; omega

/-! ### orders -/
def cmpL : List UInt8 → List UInt8 → Int
  | [], [] => 0
  | [], _ :: _ => -1
  | _ :: _, [] => 1
  | a :: r, b :: s => if a < b then -1 else if b < a then 1 else cmpL r s
theorem cmpL_eq : ∀ a b, Lib.compareBytes a b = cmpL a b
  | [], [] => rfl
  | [], _ :: _ => rfl
  | _ :: _, [] => rfl
  | a :: r, b :: s => by simp only [Lib.compareBytes, cmpL, cmpL_eq r s]
def comL : List UInt8 → List UInt8 → Nat
  | a :: r, b :: s => if a = b then comL r s + 1 else 0
  | _, _ => 0
theorem comL_le : ∀ a b, comL a b ≤ a.length ∧ comL a b ≤ b.length
  | [], _ => by simp [comL]
  | _ :: _, [] => by simp [comL]
  | a :: r, b :: s => by
    have := comL_le r s
    simp only [comL]
    split <;> simp <;> omega

theorem ofInt64 (a : Nat) (ha : a < 9223372036854775808) : (BitVec.ofInt 64 (a : Int)).toNat = a := by
  rw [BitVec.ofInt_natCast, BitVec.toNat_ofNat]; exact Nat.mod_eq_of_lt (by omega)
theorem i64_or_nat (a b : Nat) (ha : a < 9223372036854775808) (hb : b < 9223372036854775808) : bits .or .i64 (a : Int) (b : Int) = ((a ||| b : Nat) : Int) := by
  have hx : a ||| b < 2 ^ 63 := Nat.or_lt_two_pow (by omega) (by omega)
  show IntKind.i64.wrap ((BitVec.ofInt 64 (a : Int) ||| BitVec.ofInt 64 (b : Int)).toNat : Int) = _
  rw [BitVec.toNat_or, ofInt64 a ha, ofInt64 b hb, IntKind.wrap_i64]
  omega
theorem and127' : ∀ x : Fin 256, x.val &&& 127 = x.val % 128 := by decide +kernel
theorem and127 (x : Nat) (h : x < 256) : x &&& 127 = x % 128 := and127' ⟨x, h⟩
theorem or128' : ∀ x : Fin 256, x.val ||| 128 = x.val % 128 + 128 := by decide +kernel
theorem or128 (x : Nat) (h : x < 256) : x ||| 128 = x % 128 + 128 := or128' ⟨x, h⟩
theorem or16 : ∀ x y : Fin 16, (x.val * 16) ||| y.val = x.val * 16 + y.val := by decide
theorem or_digits (x y : Int) (h1 : 0 ≤ x) (h2 : x < 16) (h3 : 0 ≤ y) (h4 : y < 16) : Value.int .u8 (bits .or .i64 (x * 16) y % 256) = U8 (x * 16 + y).toNat.toUInt8 := by
  obtain ⟨x, rfl⟩ := Int.eq_ofNat_of_zero_le h1
  obtain ⟨y, rfl⟩ := Int.eq_ofNat_of_zero_le h3
  rw [show ((x : Int) * 16) = ((x * 16 : Nat) : Int) by omega, i64_or_nat _ _ (by omega) (by omega), or16 ⟨x, by omega⟩ ⟨y, by omega⟩]
  unfold U8
  congr 1

/-! ### digits -/
def digs : List UInt8 := [48, 49, 50, 51, 52, 53, 54, 55, 56, 57, 97, 98, 99, 100, 101, 102]
def hexD (n : Nat) : UInt8 := digs.getD n 0
def hexL : List UInt8 → List UInt8
  | [] => []
  | b :: l => hexD (b.toNat / 16) :: hexD (b.toNat % 16) :: hexL l
theorem length_hexL : ∀ l, (hexL l).length = 2 * l.length
  | [] => rfl
  | b :: l => by simp [hexL, length_hexL l]; omega
theorem digs_cut' : ∀ n : Fin 16, (ByteArray.mk #[48, 49, 50, 51, 52, 53, 54, 55, 56, 57, 97, 98, 99, 100, 101, 102]).extract n (n + 1) = ofL [hexD n] := by decide +kernel
theorem digs_cut (n : Nat) (h : n < 16) : (ByteArray.mk #[48, 49, 50, 51, 52, 53, 54, 55, 56, 57, 97, 98, 99, 100, 101, 102]).extract n (n + 1) = ofL [hexD n] := digs_cut' ⟨n, h⟩
theorem digs_get' : ∀ n : Fin 16, (ByteArray.mk #[48, 49, 50, 51, 52, 53, 54, 55, 56, 57, 97, 98, 99, 100, 101, 102])[n.val]'(by have := n.isLt; exact this) = hexD n := by decide +kernel
theorem digs_get (i : Int) (n : Nat) (hi : i = n) (hn : n < 16) (h : i.toNat < (ByteArray.mk #[48, 49, 50, 51, 52, 53, 54, 55, 56, 57, 97, 98, 99, 100, 101, 102]).size) :
    Value.int .u8 ((ByteArray.mk #[48, 49, 50, 51, 52, 53, 54, 55, 56, 57, 97, 98, 99, 100, 101, 102])[i.toNat].toNat : Int) = U8 (hexD n) := by
  subst hi
  unfold U8
  congr 3
  exact digs_get' ⟨n, hn⟩
def idx (c : UInt8) : Int := Lib.indexByte digs c
def okH (t : List UInt8) : Bool := t.length % 2 == 0 && t.all fun c => decide (0 ≤ idx c)
def unhexL : List UInt8 → List UInt8
  | a :: b :: r => (idx a * 16 + idx b).toNat.toUInt8 :: unhexL r
  | _ => []
theorem idx_hexD : ∀ n : Fin 16, idx (hexD n) = n := by decide
theorem idx_bd : ∀ n : Fin 256, -1 ≤ idx (UInt8.ofNat n) ∧ idx (UInt8.ofNat n) < 16 ∧ (0 ≤ idx (UInt8.ofNat n) → hexD (idx (UInt8.ofNat n)).toNat = UInt8.ofNat n) := by decide +kernel
theorem idx_bds (c : UInt8) : -1 ≤ idx c ∧ idx c < 16 ∧ (0 ≤ idx c → hexD (idx c).toNat = c) := by
  have h := idx_bd ⟨c.toNat, c.toNat_lt⟩
  simpa using h
theorem idx_hexD' (n : Nat) (h : n < 16) : idx (hexD n) = n := idx_hexD ⟨n, h⟩
theorem okH_hexL : ∀ l, okH (hexL l) = true := by
  intro l
  unfold okH
  rw [length_hexL]
  simp only [Nat.mul_mod_right, BEq.rfl, Bool.true_and]
  induction l with
  | nil => rfl
  | cons b l ih =>
    have := b.toNat_lt
    simp only [hexL, List.all_cons, ih, idx_hexD' (b.toNat / 16) (by omega), idx_hexD' (b.toNat % 16) (by omega)]
    simp; omega
theorem unhexL_hexL : ∀ l, unhexL (hexL l) = l
  | [] => rfl
  | b :: l => by
    have := b.toNat_lt
    simp only [hexL, unhexL, unhexL_hexL l, idx_hexD' (b.toNat / 16) (by omega), idx_hexD' (b.toNat % 16) (by omega)]
    congr 1
    rw [show (((b.toNat / 16 : Nat) : Int) * 16 + ((b.toNat % 16 : Nat) : Int)).toNat = b.toNat by omega]
    simp
theorem hexL_unhexL : ∀ t, okH t = true → hexL (unhexL t) = t
  | [], _ => rfl
  | [c], h => by simp [okH] at h
  | a :: b :: r, h => by
    have ha := idx_bds a
    have hb := idx_bds b
    simp only [okH, List.length_cons, List.all_cons, Bool.and_eq_true, decide_eq_true_eq, beq_iff_eq] at h
    have hr : okH r = true := by
      simp only [okH, Bool.and_eq_true, beq_iff_eq]
      exact ⟨by omega, h.2.2.2⟩
    simp only [unhexL, hexL, hexL_unhexL r hr]
    have e : ((idx a * 16 + idx b).toNat.toUInt8).toNat = (idx a * 16 + idx b).toNat := by
      simp; omega
    rw [e, show (idx a * 16 + idx b).toNat / 16 = (idx a).toNat by omega, show (idx a * 16 + idx b).toNat % 16 = (idx b).toNat by omega, ha.2.2 h.2.1, hb.2.2 h.2.2.1]
def unhexR (t : List UInt8) : List UInt8 := if okH t = true then unhexL t else []
theorem unhexR_yes {t : List UInt8} (h : okH t = true) : unhexR t = unhexL t := if_pos h
theorem unhexR_no {t : List UInt8} (h : okH t = false) : unhexR t = [] := if_neg (by simp [h])
theorem okH_odd {t : List UInt8} (h : ¬ t.length % 2 = 0) : okH t = false := by unfold okH; simp [h]
theorem okH_step (a b : UInt8) (r : List UInt8) : okH (a :: b :: r) = (decide (0 ≤ idx a) && decide (0 ≤ idx b) && okH r) := by
  unfold okH
  simp only [List.length_cons, List.all_cons]
  rw [show (r.length + 1 + 1) % 2 = r.length % 2 by omega]
  cases decide (0 ≤ idx a) <;> cases decide (0 ≤ idx b) <;> simp

/-! ### pieces, padding -/
/-- The pieces of a string. -/
def cutF (n : Nat) : Nat → List UInt8 → List (List UInt8)
  | 0, _ => []
  | f + 1, l => if n = 0 ∨ l = [] then [] else l.take n :: cutF n f (l.drop n)
def cutL (n : Nat) (l : List UInt8) : List (List UInt8) := cutF n l.length l
theorem cutF_more (n : Nat) : ∀ f l, l.length ≤ f → cutF n f l = cutF n l.length l
  | 0, l, h => by
    have h0 : l = [] := List.eq_nil_of_length_eq_zero (by omega)
    rw [h0]; rfl
  | f + 1, l, h => by
    cases l with
    | nil => simp [cutF]
    | cons x l =>
      simp only [List.length_cons, cutF]
      split
      · rfl
      · rename_i h0
        have hn : 0 < n := by omega
        rw [cutF_more n f _ (by simp at h ⊢; omega), cutF_more n l.length _ (by simp; omega)]
theorem cutL_zero (l : List UInt8) : cutL 0 l = [] := by unfold cutL; cases l <;> simp [cutF]
theorem cutL_nil (n : Nat) : cutL n [] = [] := rfl
theorem cutL_cons {n : Nat} {l : List UInt8} (hn : 0 < n) (hl : 0 < l.length) : cutL n l = l.take n :: cutL n (l.drop n) := by
  unfold cutL
  obtain ⟨m, hm⟩ : ∃ m, l.length = m + 1 := ⟨l.length - 1, by omega⟩
  rw [hm, cutF, if_neg (by rintro (h | h); omega; rw [h] at hl; simp at hl), cutF_more n m _ (by simp; omega)]
theorem length_cutF (n : Nat) : ∀ f l, (cutF n f l).length ≤ f
  | 0, _ => by simp [cutF]
  | f + 1, l => by
    simp only [cutF]
    split
    · simp
    · have := length_cutF n f (l.drop n); simp; omega
theorem length_cutL (n : Nat) (l : List UInt8) : (cutL n l).length ≤ l.length := length_cutF n _ l
theorem cutL_last {n : Nat} {l : List UInt8} (hn : 0 < n) (hl : 0 < l.length) (h : l.length ≤ n) : cutL n l = [l] := by
  rw [cutL_cons hn hl, List.take_of_length_le h, List.drop_of_length_le h, cutL_nil]
theorem cutF_good {n : Nat} (hn : 0 < n) : ∀ f l, l.length ≤ f → (cutF n f l).flatten = l ∧ ∀ k (h : k < (cutF n f l).length), 0 < (cutF n f l)[k].length ∧ (cutF n f l)[k].length ≤ n ∧ (k + 1 < (cutF n f l).length → (cutF n f l)[k].length = n)
  | 0, l, h => by
    have h0 : l = [] := List.eq_nil_of_length_eq_zero (by omega)
    subst h0
    exact ⟨rfl, fun k h => by simp [cutF] at h⟩
  | f + 1, l, h => by
    by_cases h0 : l = []
    · subst h0; simp [cutF]
    · have hl : 0 < l.length := List.length_pos_iff.2 h0
      have hc : cutF n (f + 1) l = l.take n :: cutF n f (l.drop n) := by rw [cutF, if_neg (by rintro (h | h); omega; exact h0 h)]
      obtain ⟨i1, i2⟩ := cutF_good hn f (l.drop n) (by simp; omega)
      rw [hc]
      refine ⟨by rw [List.flatten_cons, i1, List.take_append_drop], fun k hk => ?_⟩
      cases k with
      | zero =>
        refine ⟨by simp; omega, by simp; omega, fun h1 => ?_⟩
        have : 0 < (cutF n f (l.drop n)).length := by simpa using h1
        have h3 : l.drop n ≠ [] := by
          intro h4
          rw [h4] at this
          cases f <;> simp [cutF] at this
        have h5 : 0 < (l.drop n).length := List.length_pos_iff.2 h3
        simp at h5 ⊢
        omega
      | succ k =>
        have := i2 k (by simpa using hk)
        simpa using this
theorem cutL_good {n : Nat} (hn : 0 < n) (l : List UInt8) : (cutL n l).flatten = l ∧ ∀ k (h : k < (cutL n l).length), 0 < (cutL n l)[k].length ∧ (cutL n l)[k].length ≤ n ∧ (k + 1 < (cutL n l).length → (cutL n l)[k].length = n) := cutF_good hn _ l (Nat.le_refl _)
/-- A string with zero bytes behind. -/
def padL (l : List UInt8) (n : Int) : List UInt8 := l ++ List.replicate ((min n 65536).toNat - l.length) 0
theorem repeatL_zero (c : Nat) : Lib.repeatL [0] c = List.replicate c 0 := by
  induction c with
  | zero => rfl
  | succ c ih => rw [Lib.repeatL, ih]; rfl
end Go.Proofs.YtejhiekikblbiaaGreatDoor
