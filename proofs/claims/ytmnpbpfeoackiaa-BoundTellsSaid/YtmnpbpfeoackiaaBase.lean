/-
  Small facts on byte strings, owned slices and worlds that the walks of this seat use. No condition.
-/
import Derived.WalkKit
import Derived.WalkSpells
import Derived.WalkLawsBesides
import Derived.BigQuiet
import Derived.Handy
import Derived.StillTailTactics
import Derived.Deep.RegionHeld3
import Derived.Lib.Hide
namespace Go.Proofs.Ytmnpbpfeoackiaa
open Go.RowKit

/-- A string's bytes as a list, and back. -/
def toL (b : ByteArray) : List UInt8 := b.data.toList
def ofL (l : List UInt8) : ByteArray := ⟨l.toArray⟩
@[go_sem] theorem toL_ofL (l : List UInt8) : toL (ofL l) = l := by simp [toL, ofL]
theorem ofL_toL (b : ByteArray) : ofL (toL b) = b := by simp [toL, ofL]
@[go_sem] theorem size_ofL (l : List UInt8) : (ofL l).size = l.length := by simp [ofL, ByteArray.size]
theorem length_toL (b : ByteArray) : (toL b).length = b.size := by rw [← ofL_toL b, toL_ofL, size_ofL]
@[go_sem] theorem toList_eq_toL (b : ByteArray) : b.toList = toL b := ByteArray.toList_eq b
theorem toL_inj {a b : ByteArray} (h : toL a = toL b) : a = b := by rw [← ofL_toL a, h, ofL_toL]
theorem toL_append (a b : ByteArray) : toL (a ++ b) = toL a ++ toL b := by simp [toL]
theorem ofL_append (a b : List UInt8) : ofL a ++ ofL b = ofL (a ++ b) := toL_inj (by rw [toL_append, toL_ofL, toL_ofL, toL_ofL])
theorem toL_extract (a : ByteArray) (i j : Nat) : toL (a.extract i j) = ((toL a).drop i).take (j - i) := by
  simp [toL, ByteArray.data_extract]
theorem ofL_extract (l : List UInt8) (i j : Nat) : (ofL l).extract i j = ofL ((l.drop i).take (j - i)) := toL_inj (by rw [toL_extract, toL_ofL, toL_ofL])
theorem toL_get (a : ByteArray) (k : Nat) (h : k < a.size) : a[k] = (toL a)[k]'(by rw [length_toL]; exact h) := by simp [toL]; rfl
theorem beq_iff (a b : ByteArray) : (toL a == toL b) = decide (a = b) := by
  rw [Bool.eq_iff_iff]; simp; exact ⟨toL_inj, fun h => by rw [h]⟩

/-- A byte as a cell. -/
def U8 (b : UInt8) : Value := .int .u8 b.toNat

/-- The byte of a number. -/
def byteOf (n : Int) : UInt8 := (n % 256).toNat.toUInt8
theorem U8_byteOf (n : Int) : U8 (byteOf n) = .int .u8 (n % 256) := by
  unfold U8 byteOf
  congr 1
  rw [UInt8.toNat_ofNat']
  omega

theorem ret_str {a b : ByteArray} (h : a = b) : Ending.returned (.string a) = .returned (.string b) := by rw [h]
theorem ret_int {k : IntKind} {a b : Int} (h : a = b) : Ending.returned (.int k a) = .returned (.int k b) := by rw [h]
theorem ret_bool {a b : Bool} (h : a = b) : Ending.returned (.bool a) = .returned (.bool b) := by rw [h]

/-- What was there below the elder world's size is there as it was. -/
abbrev Ext (w w' : World) : Prop := Below w.heap.size w w'
theorem Ext.rfl' (w : World) : Ext w w := Below.refl _ _
theorem Ext.tr {a b c : World} (h : Ext a b) (k : Ext b c) : Ext a c := h.trans (k.mono h.size)
theorem Ext.al {a b : World} (h : Ext a b) (o : Obj) : Ext a (b.alloc o) := h.alloc h.size o
theorem Ext.dr {a b : World} (h : Ext a b) : Ext a b.drew := h.drew
theorem Ext.drN {a b : World} (h : Ext a b) (n : Nat) : Ext a (b.drewN n) := ⟨h.os, h.tape, h.output, h.size, h.block⟩
theorem Ext.st {a b : World} (h : Ext a b) {p : Addr} (hp : a.heap.size ≤ p.block) (u : Value) : Ext a (b.setCell p u) := h.setCell hp u
theorem Ext.gr {a b c : World} {row : Option Nat} (h : Ext a b) (hg : b.grownBy c row) (hr : ∀ k, row = some k → a.heap.size ≤ k) : Ext a c := h.grown hg h.size hr
theorem Ext.own {a b c : World} {base : Nat} {e : TypeId} {size n : Nat} {v : Value} {xs : List Value} (h : Ext a b) (hg : b.grownBy c v.ownBlock) (ho : b.ownsRow base e size v n xs) (hb : a.heap.size ≤ base) : Ext a c :=
  h.gr hg fun k hk => by have := ho.lt k hk; omega
theorem bcell {W w1 : World} (hb : Ext W w1) : (∀ b o, b < W.heap.size → w1.cell? ⟨b, o, none⟩ = W.cell? ⟨b, o, none⟩) ∧ (∀ b o, b < W.heap.size → w1.frozen? ⟨b, o, none⟩ = W.frozen? ⟨b, o, none⟩) :=
  ⟨fun b o h => hb.cell (p := ⟨b, o, none⟩) h, fun b o h => hb.frozen (p := ⟨b, o, none⟩) h⟩

/-! ### owned rows -/
/-- The table's row of a slice type. -/
structure Elem (P : Program) (t e : TypeId) (z : Value) (size bytes : Nat) : Prop where
  ht : P.underlying t = some (.slice e)
  hi : ∃ i, P.info? e = some i ∧ i.zero = some z ∧ i.size = size ∧ i.bytes = bytes
  hz : z.cells.size = size
  h0 : 0 < size

section
variable {P : Program} {t e : TypeId} {z : Value} {size bytes : Nat}

theorem cells_lit (w : World) (news : List Value) (e : TypeId) (fr : Nat × Nat) (j : Nat) (u : Value) (h : news[j]? = some u) : (w.alloc (.cells news.toArray e fr)).cell? ((⟨w.heap.size, 0, none⟩ : Addr).add j) = some u := by
  have hadd : (⟨w.heap.size, 0, none⟩ : Addr).add j = ⟨w.heap.size, j, none⟩ := by unfold Addr.add; split <;> simp_all
  rw [hadd, cell_of_row _ _ j news.toArray e fr (heap_alloc_new w _)]
  simpa using h

/-- append(v, x, ..) of elements that are written out. -/
theorem wpl_app (E : Elem P t e z size bytes) {w : World} {ops : Array Oper} {rest : List Oper} {o : Oper} {a : Act} {Q : Exit → Act → World → Prop} {news : List Value} {e' : TypeId}
    (hgd : o.guard = none) (s x : Operand) (ho : o.op = .call { callee := .builtin .append, args := #[s, x], argTypes := #[t, t] })
    {base : Nat} {v : Value} {n : Nat} {xs : List Value} (hown : w.ownsRow base e size v n xs) (m : Nat) (hs : a.eval s = v) (hx : a.eval x = .slice (some ⟨w.heap.size, 0, none⟩) m m)
    (hl : news.length = m * size) (h1 : ∀ u ∈ news, u.oneCell' = true) (h63 : n + m ≤ 9223372036854775807) (hbytes : (n + m) * bytes ≤ 140737488355328) (hbase : base ≤ w.heap.size)
    (h : ∀ v' w', w'.ownsRow base e size v' (n + m) (xs ++ news) → w.grownBy w' v.ownBlock → wpList P ops Q rest (a.put o.dst v') w') : wpList P ops Q (o :: rest) a (w.alloc (.cells news.toArray e')) := by
  obtain ⟨i, hi, hz, hsz, hby⟩ := E.hi
  refine wpList_append_own _ hgd s x t ho base e i z size bytes E.ht hi hz hsz hby E.hz E.h0 v n xs hs (hown.alloc _) ⟨w.heap.size, 0, none⟩ m m news hx hl (cells_lit w news e' _) h1 (by unfold maxLen; omega) hbytes (by simp; omega) ?_
  intro v' w' h2 h3 _
  exact h v' w' h2 ⟨h3.os, h3.tape, h3.output, Nat.le_trans (by simp) h3.size, fun k hk hne => (h3.block k (by simp; omega) hne).trans (Below.heap_alloc w _ k hk)⟩

/-- append at a step of a region that draws its order, and at a plain list: any world, the new cells read at an address. -/
theorem wp_app (E : Elem P t e z size bytes) {w : World} {o : Oper} {a : Act} {K : Act → World → Prop} {Q : Exit → Act → World → Prop} (s x : Operand) (ho : o.op = .call { callee := .builtin .append, args := #[s, x], argTypes := #[t, t] })
    {base : Nat} {v : Value} {n : Nat} {xs : List Value} (hown : w.ownsRow base e size v n xs) {ad : Addr} (m : Nat) {c : Nat} {news : List Value} (hs : a.eval s = v) (hx : a.eval x = .slice (some ad) m c)
    (hl : news.length = m * size) (hnews : ∀ j u, news[j]? = some u → w.cell? (ad.add j) = some u) (h1 : ∀ u ∈ news, u.oneCell' = true) (h63 : n + m ≤ 9223372036854775807) (hbytes : (n + m) * bytes ≤ 140737488355328) (hbase : base ≤ w.heap.size)
    (h : ∀ v' w', w'.ownsRow base e size v' (n + m) (xs ++ news) → w.grownBy w' v.ownBlock → K (a.put o.dst v') w') : o.wp P a w K Q := by
  obtain ⟨i, hi, hz, hsz, hby⟩ := E.hi
  exact wp_append_own w s x t ho base e i z size bytes E.ht hi hz hsz hby E.hz E.h0 v n xs hs hown ad m c news hx hl hnews h1 (by unfold maxLen; omega) hbytes hbase fun v' w' h2 h3 _ => h v' w' h2 h3
theorem step_app (E : Elem P t e z size bytes) {w : World} {ops : Array Oper} {o : Oper} {a : Act} {K : Act → World → Prop} {Q : Exit → Act → World → Prop} {F : Prop} (hgd : o.guard = none) (s x : Operand) (ho : o.op = .call { callee := .builtin .append, args := #[s, x], argTypes := #[t, t] })
    {base : Nat} {v : Value} {n : Nat} {xs : List Value} (hown : w.ownsRow base e size v n xs) {ad : Addr} (m : Nat) {c : Nat} {news : List Value} (hs : a.eval s = v) (hx : a.eval x = .slice (some ad) m c)
    (hl : news.length = m * size) (hnews : ∀ j u, news[j]? = some u → w.cell? (ad.add j) = some u) (h1 : ∀ u ∈ news, u.oneCell' = true) (h63 : n + m ≤ 9223372036854775807) (hbytes : (n + m) * bytes ≤ 140737488355328) (hbase : base ≤ w.heap.size)
    (h : ∀ v' w', w'.ownsRow base e size v' (n + m) (xs ++ news) → w.grownBy w' v.ownBlock → K (a.put o.dst v') w') : if Region.wanted o (yielded ops a.tmps) = true then Oper.wp P o a w K Q else F := by
  have hw : Region.wanted o (yielded ops a.tmps) = true := by simp [Region.wanted, hgd]
  rw [if_pos hw]
  exact wp_app E s x ho hown m hs hx hl hnews h1 h63 hbytes hbase h
theorem Ext.own' {a b c : World} {base : Nat} {e : TypeId} {size n : Nat} {v : Value} {xs : List Value} {w : World} (_h : Ext a w) (hg : b.grownBy c v.ownBlock) (ho : w.ownsRow base e size v n xs) (hb : a.heap.size ≤ base) (hE : Ext a b) : Ext a c :=
  hE.gr hg fun k hk => by have := ho.lt k hk; omega

/-- make([]T, n), elements of one cell. -/
theorem wpl_make (E : Elem P t e z 1 bytes) (hz1 : z.cells = #[z]) (w : World) {ops : Array Oper} {rest : List Oper} {o : Oper} {a : Act} {Q : Exit → Act → World → Prop}
    (hgd : o.guard = none) (l c : Operand) (hop : o.op = Op.makeSlice t l c) {kl kc : IntKind} {L C : Int} (n : Nat) (hl : a.eval l = .int kl L) (hc : a.eval c = .int kc C) (hL : L = (n : Int)) (hC : C = (n : Int))
    (hb : n * bytes ≤ 140737488355328) (h63 : n ≤ 9223372036854775807)
    (hK : ∀ w', w'.ownsRow w.heap.size e 1 (.slice (some ⟨w.heap.size, 0, none⟩) n n) n (List.replicate n z) → Ext w w' →
      wpList P ops Q rest (a.put o.dst (.slice (some ⟨w.heap.size, 0, none⟩) n n)) w') : wpList P ops Q (o :: rest) a w := by
  obtain ⟨i, hi, hz, hsz, hby⟩ := E.hi
  refine wpList_make_full w hgd l c t hop w.heap.size e i z 1 E.ht hi hz hsz kl kc L C n hl hc hL hC (by rw [hby, Nat.mul_comm]; omega) (by unfold maxLen; omega) (Nat.le_refl _) ?_
  intro w' h1 h2
  rw [hz1, Nat.mul_one, toList_madeCells_one] at h1
  exact hK w' h1 ((Ext.rfl' w).gr h2 (fun k hk => by cases hk))
/-- make([]T, 0, n), elements of one cell. -/
theorem wpl_make0 (E : Elem P t e z size bytes) (w : World) {ops : Array Oper} {rest : List Oper} {o : Oper} {a : Act} {Q : Exit → Act → World → Prop}
    (hgd : o.guard = none) (l c : Operand) (hop : o.op = Op.makeSlice t l c) {kl kc : IntKind} {C : Int} (n : Nat) (hl : a.eval l = .int kl 0) (hc : a.eval c = .int kc C) (hC : C = (n : Int))
    (hb : n * bytes ≤ 140737488355328) (h63 : n ≤ 9223372036854775807)
    (hK : ∀ w', w'.ownsRow w.heap.size e size (.slice (some ⟨w.heap.size, 0, none⟩) 0 n) 0 [] → Ext w w' →
      wpList P ops Q rest (a.put o.dst (.slice (some ⟨w.heap.size, 0, none⟩) 0 n)) w') : wpList P ops Q (o :: rest) a w := by
  obtain ⟨i, hi, hz, hsz, hby⟩ := E.hi
  refine wpList_make_own w hgd l c t hop w.heap.size e i z size E.ht hi hz hsz kl kc C n hl hc hC (by rw [hby, Nat.mul_comm]; omega) (by unfold maxLen; omega) (Nat.le_refl _) ?_
  intro w' h1 h2
  exact hK w' h1 ((Ext.rfl' w).gr h2 (fun k hk => by cases hk))
/-- A store into an owned row of one-cell elements. -/
theorem own_set {w : World} {base : Nat} {g n cap : Nat} {xs : List Value} (h : w.ownsRow base e 1 (.slice (some ⟨g, 0, none⟩) n cap) n xs) (j : Nat) (u : Value) {W : World} (hE : Ext W w) (hb : W.heap.size ≤ base) :
    (w.setCell ⟨g, j, none⟩ u).ownsRow base e 1 (.slice (some ⟨g, 0, none⟩) n cap) n (xs.set j u) ∧ Ext W (w.setCell ⟨g, j, none⟩ u) := by
  have := h.lt g rfl
  exact ⟨(h.stored j u).1, hE.st (by simp; omega) u⟩
theorem own_cell {w : World} {base : Nat} {g n cap : Nat} {xs : List Value} (h : w.ownsRow base e 1 (.slice (some ⟨g, 0, none⟩) n cap) n xs) (j : Nat) (hj : j < n) :
    w.cell? ⟨g, j, none⟩ = some (xs[j]'(by have := h.1; omega)) ∧ w.frozen? ⟨g, j, none⟩ = false :=
  ⟨by rw [h.cellAt j (by omega)]; exact List.getElem?_eq_getElem _, h.frozenAt j⟩

/-- string(v) of an owned row of bytes. -/
theorem foldl_push (l : List UInt8) : ∀ s : ByteArray, (l.map fun b => ((b.toNat : Nat) : Int)).foldl (fun r n => r.push (UInt8.ofNat n.toNat)) s = ofL (toL s ++ l) := by
  induction l with
  | nil => intro s; simp [ofL_toL]
  | cons b l ih =>
    intro s
    simp only [List.map_cons, List.foldl_cons]
    rw [ih]
    congr 1
    simp [toL, ByteArray.push]

theorem run_str_cells (w : World) (src dst e' : TypeId) (hs : P.underlying src = some (.slice e')) (he : P.underlying e' = some (.int .u8)) (hd : P.underlying dst = some .string)
    (ad : Addr) (n c : Nat) (l : List UInt8) (hl : l.length = n) (hc : ∀ j u, (l.map U8)[j]? = some u → w.cell? (ad.add j) = some u) :
    (convert src dst (.slice (some ad) n c)).run P w = .ok (.string (ofL l)) w := by
  rw [run_convert_bytes_string w src dst e' _ _ _ hs he hd]
  have h1 : (loadCells ad n).run P w = .ok ((l.map fun b => ((b.toNat : Nat) : Int)).map (Value.int .u8)).toArray w := by
    have h := run_loadCells_list (P := P) w ad (l.map U8) hc
    rw [List.length_map, hl] at h
    rw [h]
    simp [U8]
  rw [run_bytesToString w ad n c _ h1, foldl_push]
  congr 1

theorem run_str_own {w : World} {base : Nat} {v : Value} {n : Nat} {l : List UInt8} (src dst e' : TypeId) (hs : P.underlying src = some (.slice e')) (he : P.underlying e' = some (.int .u8)) (hd : P.underlying dst = some .string)
    (hown : w.ownsRow base e 1 v n (l.map U8)) : (convert src dst v).run P w = .ok (.string (ofL l)) w := by
  have hl : l.length = n := by simpa using hown.1
  rcases hown.2 with ⟨rfl, rfl⟩ | ⟨g, cap, cur, rfl, hrest⟩
  · have hl0 : l = [] := List.eq_nil_of_length_eq_zero hl
    subst hl0
    rw [run_convert_bytes_string w src dst e' _ _ _ hs he hd]
    rfl
  · exact run_str_cells w src dst e' hs he hd _ n cap l hl (hown.cells rfl)
end
/-- A slice of the call's own is returned. -/
def RetOwn (w : World) (e size n : Nat) (xs : List Value) (en : Ending) (w' : World) : Prop := ∃ v, en = .returned v ∧ w'.ownsRow w.heap.size e size v n xs ∧ Ext w w'
/-- A string as a cell. -/
def Str (l : List UInt8) : Value := .string (ofL l)
theorem oneCell_str (l : List (List UInt8)) : ∀ u ∈ l.map Str, u.oneCell' = true := by
  intro u hu
  obtain ⟨x, _, rfl⟩ := List.mem_map.1 hu
  rfl
theorem oneCell_u8 (l : List UInt8) : ∀ u ∈ l.map U8, u.oneCell' = true := by
  intro u hu
  obtain ⟨x, _, rfl⟩ := List.mem_map.1 hu
  rfl
def strSz : Value → Nat
  | .string r => r.size
  | _ => 0
theorem strSz_str (r : ByteArray) : strSz (.string r) = r.size := rfl
theorem extract_to (r : ByteArray) (n : Nat) : r.extract 0 n = ofL ((toL r).take n) := toL_inj (by rw [toL_extract, toL_ofL]; simp)
theorem extract_from (r : ByteArray) (n : Nat) : r.extract n r.size = ofL ((toL r).drop n) :=
  toL_inj (by rw [toL_extract, toL_ofL, List.take_of_length_le]; simp [length_toL])
theorem extract_mid (r : ByteArray) (i j : Nat) : r.extract i j = ofL (((toL r).drop i).take (j - i)) := toL_inj (by rw [toL_extract, toL_ofL])

/-! ### slices that are only read -/
/-- A slice value of n elements whose cells are xs, below block B. -/
def Rd (w : World) (B : Nat) (size : Nat) (v : Value) (n : Nat) (xs : List Value) : Prop :=
  ∃ A c, v = .slice A n c ∧ n ≤ 9223372036854775807 ∧ xs.length = n * size ∧ (0 < n → ∃ b off, A = some ⟨b, off, none⟩ ∧ b < B ∧ ∀ j u, xs[j]? = some u → w.cell? ⟨b, off + j, none⟩ = some u)
theorem Rd.ext {w w' : World} {B size n : Nat} {v : Value} {xs : List Value} (h : Rd w B size v n xs) (hE : Ext w w') (hB : B ≤ w.heap.size) : Rd w' B size v n xs := by
  obtain ⟨A, c, rfl, hn, hl, hc⟩ := h
  refine ⟨A, c, rfl, hn, hl, fun h0 => ?_⟩
  obtain ⟨b, off, rfl, hb, hcell⟩ := hc h0
  exact ⟨b, off, rfl, hb, fun j u hu => ((bcell hE).1 b _ (by omega)).trans (hcell j u hu)⟩
theorem Rd.more {w : World} {B B' size n : Nat} {v : Value} {xs : List Value} (h : Rd w B size v n xs) (hB : B ≤ B') : Rd w B' size v n xs := by
  obtain ⟨A, c, rfl, hn, hl, hc⟩ := h
  refine ⟨A, c, rfl, hn, hl, fun h0 => ?_⟩
  obtain ⟨b, off, rfl, hb, hcell⟩ := hc h0
  exact ⟨b, off, rfl, by omega, hcell⟩
theorem Rd.own {w : World} {base size n : Nat} {e : TypeId} {v : Value} {xs : List Value} (h : w.ownsRow base e size v n xs) (_hs : 0 < size) : Rd w w.heap.size size v n xs := by
  have hl := h.1
  rcases h.2 with ⟨rfl, rfl⟩ | ⟨g, cap, cur, rfl, hb, hg, hn, hc, hcs, ht⟩
  · exact ⟨_, _, rfl, by omega, hl, fun h => absurd h (by omega)⟩
  · refine ⟨_, _, rfl, by unfold maxLen at hc; omega, hl, fun _ => ⟨g, 0, rfl, (h.lt g rfl).2, fun j u hu => ?_⟩⟩
    have hj : j < xs.length := (List.getElem?_eq_some_iff.1 hu).1
    rw [Nat.zero_add, h.cellAt j (by omega)]
    exact hu
/-- Three new boxes. -/
theorem boxes3 (w : World) (a b c : Value) (ta tb tc : TypeId) : ∃ w3 : World, w3 = ((w.alloc (.cells #[a] ta)).alloc (.cells #[b] tb)).alloc (.cells #[c] tc) ∧ Ext w w3 ∧
    w3.cell? ⟨w.heap.size, 0, none⟩ = some a ∧ w3.cell? ⟨w.heap.size + 1, 0, none⟩ = some b ∧ w3.cell? ⟨w.heap.size + 1 + 1, 0, none⟩ = some c ∧ w3.frozen? ⟨w.heap.size + 1 + 1, 0, none⟩ = false ∧ w3.heap.size = w.heap.size + 3 :=
  ⟨_, rfl, (((Ext.rfl' w).al _).al _).al _, by simp [go_sem, World.cell?_alloc_past], by simp [go_sem, World.cell?_alloc_past], by simp [go_sem], by simp [go_sem], by simp⟩
theorem boxes2 (w : World) (a b : Value) (ta tb : TypeId) : ∃ w3 : World, w3 = (w.alloc (.cells #[a] ta)).alloc (.cells #[b] tb) ∧ Ext w w3 ∧
    w3.cell? ⟨w.heap.size, 0, none⟩ = some a ∧ w3.cell? ⟨w.heap.size + 1, 0, none⟩ = some b ∧ w3.frozen? ⟨w.heap.size + 1, 0, none⟩ = false ∧ w3.heap.size = w.heap.size + 2 :=
  ⟨_, rfl, ((Ext.rfl' w).al _).al _, by simp [go_sem, World.cell?_alloc_past], by simp [go_sem], by simp [go_sem], by simp⟩
theorem cell_set_same {w : World} {a : Addr} {v0 : Value} (h : w.cell? a = some v0) (v : Value) : (w.setCell a v).cell? a = some v := by simp [go_sem, h]
end Go.Proofs.Ytmnpbpfeoackiaa
