/-
  slices.Chunk over a row of bytes: the iterator's promise. Condition: 110 bytes a piece.
-/
import Derived.Test.YtmnpbpfeoackiaaDoorMhE
import Derived.Test.YtmnpbpfeoackiaaDoorMhC
import Derived.Test.YtmnpbpfeoackiaaDoorMhF
import Derived.Shelf.Abstract
import Derived.Shelf.RegionOpen
import Derived.OwnWalkIn
import Derived.TacticsInMore
import Derived.LoopNIn
import Derived.LoopIn
import Derived.Maps.AppendAt
namespace Go.Proofs.YtmnpbpfeoackiaaDoor
open Go.RowKit Go.Shelf
attribute [local go_sem] Oper.semAt_some

/-- A piece of a text: where it begins, its bytes. -/
structure Chk (S : List UInt8) where
  o : Nat
  t : List UInt8
  ok : t = (S.drop o).take t.length ∧ t.length ≤ 110 ∧ 0 < t.length
theorem chk_ok {S : List UInt8} {o : Nat} (h : o < S.length) : (S.drop o).take 110 = (S.drop o).take ((S.drop o).take 110).length ∧ ((S.drop o).take 110).length ≤ 110 ∧ 0 < ((S.drop o).take 110).length := by
  have hl : ((S.drop o).take 110).length = min 110 (S.length - o) := by rw [List.length_take, List.length_drop]
  refine ⟨?_, by omega, by omega⟩
  rw [hl]
  rcases Nat.le_total 110 (S.length - o) with h1 | h1
  · rw [Nat.min_eq_left h1]
  · rw [Nat.min_eq_right h1, List.take_of_length_le (by rw [List.length_drop]; exact h1), List.take_of_length_le (by rw [List.length_drop]; exact Nat.le_refl _)]
def chF (S : List UInt8) : Nat → Nat → List (Chk S)
  | 0, _ => []
  | n + 1, o => if h : o < S.length then ⟨o, (S.drop o).take 110, chk_ok h⟩ :: chF S n (o + 110) else []
theorem chF_more (S : List UInt8) : ∀ (f g o : Nat), S.length ≤ o + f → S.length ≤ o + g → chF S f o = chF S g o
  | 0, 0, _, _, _ => rfl
  | 0, g + 1, o, h, _ => by unfold chF; rw [dif_neg (by omega)]
  | f + 1, 0, o, _, h => by unfold chF; rw [dif_neg (by omega)]
  | f + 1, g + 1, o, h1, h2 => by
    unfold chF
    split
    · rw [chF_more S f g (o + 110) (by omega) (by omega)]
    · rfl
def chA (S : List UInt8) (o : Nat) : List (Chk S) := chF S S.length o
theorem chA_cons {S : List UInt8} {o : Nat} (h : o < S.length) : chA S o = ⟨o, (S.drop o).take 110, chk_ok h⟩ :: chA S (o + 110) := by
  unfold chA
  obtain ⟨n, hn⟩ : ∃ n, S.length = n + 1 := ⟨S.length - 1, by omega⟩
  rw [chF_more S S.length (n + 1) o (by omega) (by omega), chF_more S S.length n (o + 110) (by omega) (by omega)]
  conv => lhs; unfold chF
  rw [dif_pos h]
theorem chA_nil {S : List UInt8} {o : Nat} (h : ¬ o < S.length) : chA S o = [] := by
  unfold chA
  cases hs : S.length with
  | zero => rfl
  | succ n => unfold chF; rw [dif_neg h]
theorem chA_texts (S : List UInt8) : ∀ (n o : Nat), S.length ≤ o + n → (chA S o).map (·.t) = cutL 110 (S.drop o)
  | 0, o, h => by rw [chA_nil (by omega), List.drop_of_length_le (by omega)]; rfl
  | n + 1, o, h => by
    by_cases h1 : o < S.length
    · rw [chA_cons h1, List.map_cons, chA_texts S n (o + 110) (by omega), cutL_cons (l := S.drop o) (by omega) (by rw [List.length_drop]; omega), List.drop_drop]
    · rw [chA_nil h1, List.drop_of_length_le (by omega)]; rfl
theorem chA_len (S : List UInt8) : ∀ (n o : Nat), S.length ≤ o + n → (chA S o).length ≤ n
  | 0, o, h => by rw [chA_nil (by omega)]; exact Nat.le_refl _
  | n + 1, o, h => by
    by_cases h1 : o < S.length
    · have := chA_len S n (o + 110) (by omega)
      rw [chA_cons h1, List.length_cons]
      omega
    · rw [chA_nil h1]; exact Nat.zero_le _

/-- What the iterator hands. -/
def encC (g : Nat) {S : List UInt8} (x : Chk S) : Array Value := #[.slice (some ⟨g, x.o, none⟩) x.t.length x.t.length]
/-- What it holds: the row's slice, how many bytes a piece has. -/
structure CapC (W : World) (b : Nat) (v : Value) : Prop where
  s : Arr W b 56 [v]
  n : Arr W (b + 1) 3 [.int .i64 110]
theorem CapC.grown {W W' : World} {b : Nat} {v : Value} {row : Option Nat} (h : CapC W b v) (hg : W.grownBy W' row) (hr : ∀ r, row = some r → r ≠ b ∧ r ≠ b + 1) : CapC W' b v :=
  ⟨arr_kept h.s hg (fun r e => (hr r e).1), arr_kept h.n hg (fun r e => (hr r e).2)⟩
theorem CapC.ext {W W' : World} {b : Nat} {v : Value} (h : CapC W b v) (hE : Ext W W') : CapC W' b v := ⟨h.s.ext hE h.s.lt, h.n.ext hE h.n.lt⟩

set_option maxRecDepth 100000 in
theorem chunk_any (A : Option Addr) (sl sc : Nat) (w : World) : Calls Tryd.prog 98 #[.slice A sl sc, .int .i64 110] w fun e w' => e = .returned (.func (.func 123) #[] #[.pointer (some ⟨w.heap.size, 0, none⟩), .pointer (some ⟨w.heap.size + 1, 0, none⟩)]) ∧ CapC w' w.heap.size (.slice A sl sc) ∧ Ext w w' := by
  have A0 := (Arr.new w 56 [.slice A sl sc]).alloc (.cells #[.int .i64 110] 3)
  have A1 := Arr.new (w.alloc (.cells #[.slice A sl sc] 56)) 3 [.int .i64 110]
  rw [World.size_alloc] at A1
  have E := ((Ext.rfl' w).al (.cells #[.slice A sl sc] 56)).al (.cells #[.int .i64 110] 3)
  go_enter Tryd.func98, Tryd.ntmps98
  go_wp2
  go_ret
  exact ⟨rfl, ⟨A0, A1⟩, E⟩

set_option maxRecDepth 100000 in
set_option maxHeartbeats 4000000 in
theorem chunk1_seq (n : Nat) (hn : 1 ≤ n) (b g f L C : Nat) (ao : Nat) (S : List UInt8) (hS : S.length ≤ 1000000) (hL : f + L = S.length) (hC : L ≤ C) (ha : 0 < L → ao = f) (w : World) (hb : CapC w b (.slice (some ⟨g, ao, none⟩) L C)) :
    SeqC Fence.wide n Tryd.prog 123 #[.pointer (some ⟨b, 0, none⟩), .pointer (some ⟨b + 1, 0, none⟩)] (encC g) (fun _ => False) (fun W W' => W'.heap[b]? = W.heap[b]? ∧ W'.heap[b + 1]? = W.heap[b + 1]?) (fun xs => xs = chA S f) (fun pre => pre <+: chA S f) (chA S f).length w := by
  intro l J Jx W hW hJ hJx hY h0
  have hbW : CapC W b (.slice (some ⟨g, ao, none⟩) L C) := ⟨hb.s.ext hW hb.s.lt, hb.n.ext hW hb.n.lt⟩
  clear hb hW
  refine callsIn_of_wp Tryd.func123 rfl trivial ?_ rfl
  simp only [Tryd.ntmps123, List.size_toArray, List.length_cons, List.length_nil, Nat.reduceAdd, Nat.reduceSub, Array.replicate_succ, Array.replicate_zero, List.push_toArray, List.append_toArray, List.nil_append, List.cons_append]
  gi_wp2
  gi_loopw [4] (fun i wr => ∃ (pre : List (Chk S)) (r : Nat), i = .int .i64 r ∧ r ≤ L + 110 ∧ chA S f = pre ++ chA S (f + r) ∧ CapC wr b (.slice (some ⟨g, ao, none⟩) L C) ∧ J pre wr) (fun i _ => L + 110 - (intOf i).toNat)
  case atStart => exact ⟨[], 0, rfl, by omega, rfl, hbW, h0⟩
  case round =>
    obtain ⟨pre, r, rfl, hr, hit, hcap, hJs⟩ := hrel
    have c0 := hcap.s.cell 0
    have c1 := hcap.n.cell 0
    simp only [List.getElem?_cons_zero] at c0 c1
    by_cases hlt : r < L
    · obtain rfl : ao = f := ha (by omega)
      have hor : ao + r < S.length := by omega
      have hit2 := hit
      rw [chA_cons hor] at hit2
      have hlen : pre.length < (chA S ao).length := by rw [hit2, List.length_append, List.length_cons]; omega
      obtain ⟨x, hx⟩ : ∃ x : Chk S, (⟨ao + r, (S.drop (ao + r)).take 110, chk_ok hor⟩ : Chk S) = x := ⟨_, rfl⟩
      have hxo : x.o = ao + r := by rw [← hx]
      obtain ⟨q, hq⟩ : ∃ q, x.t.length = q := ⟨_, rfl⟩
      have hqv : q = min 110 (L - r) := by rw [← hq, ← hx]; dsimp only; rw [List.length_take, List.length_drop]; omega
      rw [hx] at hit2
      gi_wp2
      refine wpIn_wide.2 ?_
      refine wp_region_stageE [] (fun bs W => Ext wr W) (fun bs i v W => match i with
        | 0 => v = .int .i64 110
        | 1 => v = .slice (some ⟨g, ao, none⟩) L C
        | 2 => v = .int .i64 r
        | 3 => ∃ A c, v = .slice A (L - r) c
        | 4 => v = .int .i64 ((L - r : Nat) : Int)
        | 5 => v = .int .i64 q
        | 6 => v = .int .i64 q
        | _ => True) (cs_inj (by decide)) (by decide) (by kernel_rfl) (by kernel_rfl) (by kernel_rfl) (by kernel_rfl) ((Ext.rfl' wr).dr) (fun bs W1 W2 h e => h.tr e) ?_ ?_ ?_
      · intro bs i v W1 W2 e1 e2 h
        match i, h with
        | 0, h => exact h
        | 1, h => exact h
        | 2, h => exact h
        | 3, h => exact h
        | 4, h => exact h
        | 5, h => exact h
        | 6, h => exact h
        | (i + 7), h => exact h
      · intro HF
        refine localsQ_ord (by decide) (fun bs u W hbs hW hno hd => ?_) ?_
        · refine opLeaves_ev HF rfl fun ev zc zg zf zt => ?_
          have t2 : ev (.tmp 2) = .pointer (some ⟨b + 1, 0, none⟩) := zt 2
          clear zt
          have k1 := (hcap.ext hW).n.cell 0
          simp only [List.getElem?_cons_zero] at k1
          exact ev_val (v := .int .i64 110) (by go_simp) rfl
        refine localsQ_ord (by decide) (fun bs u W hbs hW hno hd => ?_) ?_
        · refine opLeaves_ev HF rfl fun ev zc zg zf zt => ?_
          have t1 : ev (.tmp 1) = .pointer (some ⟨b, 0, none⟩) := zt 1
          clear zt
          have k0 := (hcap.ext hW).s.cell 0
          simp only [List.getElem?_cons_zero] at k0
          exact ev_val (v := .slice (some ⟨g, ao, none⟩) L C) (by go_simp) rfl
        refine localsQ_ord (by decide) (fun bs u W hbs hW hno hd => ?_) ?_
        · refine opLeaves_ev HF rfl fun ev zc zg zf zt => ?_
          have t4 : ev (.tmp 4) = .int .i64 r := zt 4
          clear zt
          exact ev_val (v := .int .i64 r) (by go_simp) rfl
        refine localsQ_ord (by decide) (fun bs u W hbs hW hno hd => ?_) ?_
        · refine opLeaves_ev HF rfl fun ev zc zg zf zt => ?_
          have t14 : ev (.tmp 14) = u 1 := zt 14
          have t15 : ev (.tmp 15) = u 2 := zt 15
          clear zt
          have h1 : u 1 = _ := hd 1 (by kernel_rfl)
          have h2 : u 2 = _ := hd 2 (by kernel_rfl)
          have hrL : r ≤ L := by omega
          exact ev_val (v := _) (by go_simp; exact ⟨rfl, rfl⟩) ⟨_, _, rfl⟩
        refine localsQ_ord (by decide) (fun bs u W hbs hW hno hd => ?_) ?_
        · refine opLeaves_ev HF rfl fun ev zc zg zf zt => ?_
          have t16 : ev (.tmp 16) = u 3 := zt 16
          clear zt
          obtain ⟨A3, c3, h3⟩ := hd 3 (by kernel_rfl)
          exact ev_val (v := .int .i64 ((L - r : Nat) : Int)) (by go_simp) rfl
        refine localsQ_ord (by decide) (fun bs u W hbs hW hno hd => ?_) ?_
        · refine opLeaves_ev HF rfl fun ev zc zg zf zt => ?_
          have t13 : ev (.tmp 13) = u 0 := zt 13
          have t17 : ev (.tmp 17) = u 4 := zt 17
          clear zt
          have h0 : u 0 = _ := hd 0 (by kernel_rfl)
          have h4 : u 4 = _ := hd 4 (by kernel_rfl)
          have hqi : min (110 : Int) ((L - r : Nat) : Int) = (q : Int) := by omega
          exact ev_val (v := .int .i64 q) (by go_simp) rfl
        refine localsQ_ord (by decide) (fun bs u W hbs hW hno hd => ?_) localsQ_nil
        · refine opLeaves_ev HF rfl fun ev zc zg zf zt => ?_
          have t18 : ev (.tmp 18) = u 5 := zt 18
          clear zt
          have h5 : u 5 = _ := hd 5 (by kernel_rfl)
          exact ev_val (v := .int .i64 q) (by go_simp) rfl
      · intro u3 W3 hW3 hV
        have h6 : u3 6 = _ := hV 6 (by decide)
        have hcap3 := hcap.ext hW3
        have hJ3 := hJ _ _ _ none hJs (ext_grown hW3) (fun r e => by cases e)
        obtain ⟨fn, tmps, assign, body, hy, hR⟩ := hY pre x W3 hJ3 hlen
        dsimp only [encC] at hy
        rw [hxo, hq] at hy
        have k0 := hcap3.s.cell 0
        have k1 := hcap3.n.cell 0
        simp only [List.getElem?_cons_zero] at k0 k1
        have hq0 : 0 < q := by omega
        have hrq : r + q ≤ L := by omega
        have HI := Lib.hid hit2
        clear hV hJs c0 c1 hit hit2 hqv hxo hq hx hcap hW3
        go_simp
        gi_wp2
        refine hR.mono ?_
        rintro e W4 (⟨rfl, hJ4, hk4, hk5⟩ | ⟨rfl, hJx4⟩)
        · have hcap4 : CapC W4 b (.slice (some ⟨g, ao, none⟩) L C) := ⟨hk4.trans hcap3.s, hk5.trans hcap3.n⟩
          clear k0 k1 hcap3 hk4 hk5 hJ3 hy hR
          have k1 := hcap4.n.cell 0
          simp only [List.getElem?_cons_zero] at k1
          have hit3 := Lib.hid (show chA S ao = (pre ++ [x]) ++ chA S (ao + (r + 110)) by rw [HI.out, List.append_assoc, ← Nat.add_assoc]; rfl)
          gi_wp2
          go_roundw
          case rel => exact ⟨pre ++ [x], r + 110, by go_num, by omega, hit3.out, hcap4, hJ4⟩
          case measure => simp [intOf]; omega
        · gi_wp2
          refine bodyPost_ret (results_none rfl _ _ _) rfl ?_
          exact ⟨⟨_, rfl⟩, .inr ⟨pre ++ [x], ⟨chA S (ao + r + 110), by rw [HI.out, List.append_assoc]; rfl⟩, hJx4⟩⟩
    · have hi : chA S f = pre := by rw [hit, chA_nil (by omega), List.append_nil]
      have HI := Lib.hid hi
      clear hi hit
      gi_wp2
      go_end0
      exact ⟨⟨_, rfl⟩, .inl ⟨pre, HI.out.symm, hJs⟩⟩
end Go.Proofs.YtmnpbpfeoackiaaDoor
