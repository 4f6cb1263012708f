/-
  Package stream: the iterator over the blocks of a stream, the first bytes of a stream. Conditions: the package's table holds the constants; texts of at most 100000 bytes.
-/
import Derived.Test.YtjpdhdfophjnpaaDoorSt1
import Derived.Test.YtjpdhdfophjnpaaDoorIterD
import Derived.Test.YtjpdhdfophjnpaaDoorInvIn
import Derived.Test.YtjpdhdfophjnpaaDoorMgF
namespace Go.Proofs.YtjpdhdfophjnpaaDoor
open Go.RowKit Go.Shelf
attribute [local go_sem] Oper.semAt_some

/-- What the iterator has captured. -/
def CapB (W : World) (b : Nat) (k n : List UInt8) : Prop := Arr W b 9 [.string (ofL k)] ∧ Arr W (b + 1) 9 [.string (ofL n)]
theorem CapB.ext {W W' : World} {b : Nat} {k n : List UInt8} (h : CapB W b k n) (hE : Ext W W') : CapB W' b k n := ⟨h.1.ext hE h.1.lt, h.2.ext hE h.2.lt⟩
theorem blocks_any (k n : List UInt8) (w : World) : Calls Tryd.prog 92 #[.string (ofL k), .string (ofL n)] w fun e w' => e = .returned (.func (.func 109) #[] #[.pointer (some ⟨w.heap.size, 0, none⟩), .pointer (some ⟨w.heap.size + 1, 0, none⟩)]) ∧ CapB w' w.heap.size k n ∧ w'.heap.size = w.heap.size + 2 ∧ Ext w w' := by
  have A0 := (Arr.new w 9 [.string (ofL k)]).alloc (.cells #[.string (ofL n)] 9)
  have A1 := Arr.new (w.alloc (.cells #[.string (ofL k)] 9)) 9 [.string (ofL n)]
  have E0 := ((Ext.rfl' w).al (.cells #[.string (ofL k)] 9)).al (.cells #[.string (ofL n)] 9)
  simp only [World.size_alloc] at A1
  have K := Kp.mk (And.intro A0 A1)
  clear A0 A1
  go_enter Tryd.func92, Tryd.ntmps92
  go_wp2
  go_ret
  exact ⟨rfl, K.out, by simp only [World.size_alloc], E0⟩
/-- What a round that goes on keeps. -/
def KeepB (n0 b : Nat) (W W' : World) : Prop := Below n0 W W' ∧ W'.heap[b]? = W.heap[b]? ∧ W'.heap[b + 1]? = W.heap[b + 1]?
theorem CapB.kept {n0 b : Nat} {W W' : World} {k n : List UInt8} (h : CapB W b k n) (hk : KeepB n0 b W W') : CapB W' b k n := ⟨hk.2.1.trans h.1, hk.2.2.trans h.2⟩
/-- Blocks have 32 bytes. -/
abbrev B32 := { x : List UInt8 // x.length = 32 }
def blkB (k n : List UInt8) (c : Nat) : B32 := ⟨blockL k n c, length_blockL k n c⟩
/-- The first blocks. -/
def blocksL (k n : List UInt8) (c : Nat) : List B32 := (List.range c).map (blkB k n)
theorem blocksL_succ (k n : List UInt8) (c : Nat) : blocksL k n (c + 1) = blocksL k n c ++ [blkB k n c] := by unfold blocksL; rw [List.range_succ, List.map_append]; rfl
theorem length_blocksL (k n : List UInt8) (c : Nat) : (blocksL k n c).length = c := by unfold blocksL; simp

set_option maxRecDepth 100000 in
set_option maxHeartbeats 4000000 in
theorem blocks1_seq (d : Nat) (hd : 1 ≤ d) (b n0 N : Nat) (k n : List UInt8) (w : World) (hT : Tab w) (hg : 0 < n0) (hn0 : n0 ≤ b) (hcap : CapB w b k n) (hk : k.length ≤ 100000) (hn : n.length ≤ 100000) (hN : N ≤ 1000000) :
    SeqD Fence.wide d Tryd.prog 109 #[.pointer (some ⟨b, 0, none⟩), .pointer (some ⟨b + 1, 0, none⟩)] (fun x : B32 => #[.string (ofL x.1)]) (fun _ => False) (KeepB n0 b) (fun _ => False) (fun pre => pre = blocksL k n pre.length) N w := by
  intro l' J Jx W hW hJ hJx hJN hY h0
  have hcW := hcap.ext hW
  have hbw : n0 ≤ w.heap.size := by have := hcap.1.lt; omega
  have hBW : Below n0 w W := ⟨hW.os, hW.tape, hW.output, hW.size, fun k hk => hW.block k (by omega)⟩
  clear hcap hW
  refine callsIn_of_wp Tryd.func109 rfl trivial ?_ rfl
  simp only [Tryd.ntmps109, List.size_toArray, List.length_cons, List.length_nil, Nat.reduceAdd, Nat.reduceSub, Array.replicate_succ, Array.replicate_zero, List.push_toArray, List.append_toArray, List.nil_append, List.cons_append]
  gi_wp2
  gi_loopw [4] (fun i wr => ∃ c : Nat, i = .int .i64 c ∧ Below n0 w wr ∧ CapB wr b k n ∧ J (blocksL k n c) wr) (fun i _ => N - (intOf i).toNat)
  case atStart => exact ⟨0, rfl, hBW, hcW, h0⟩
  case round =>
    clear hBW hcW h0
    obtain ⟨c, rfl, hB, hc, hJs⟩ := hrel
    have hlt := hJN _ _ hJs
    rw [length_blocksL] at hlt
    have r1 := (arr_cell0 hc.1).1
    have r2 := (arr_cell0 hc.2).1
    have hb := Kp.mk (stblock_any k n c wr (hT.below hg hB) hk hn (by omega))
    have hsu := Kp.mk (blocksL_succ k n c)
    obtain ⟨X, hX⟩ : ∃ X, blkB k n c = X := ⟨_, rfl⟩
    rw [show blockL k n c = X.1 by rw [← hX]; rfl] at hb
    rw [hX] at hsu
    clear hX
    gi_wp2_with fail
    refine ⟨trivial, (callsIn_wide.2 hb.out).mono ?_⟩
    rintro e w4 ⟨rfl, E4⟩
    have hc4 := hc.ext E4
    have hJ4 := hJ _ _ _ _ hJs (ext_grown E4) (fun r e => by cases e)
    have hB4 : Below n0 w w4 := hB.trans ⟨E4.os, E4.tape, E4.output, E4.size, fun k hk => E4.block k (by have := hB.size; omega)⟩
    obtain ⟨fn, tmps, assign, body, hy, hR⟩ := hY (blocksL k n c) X _ hJ4 (by rw [length_blocksL]; exact hlt)
    clear hb hc hJs hB E4 r1 r2
    gi_wp2
    refine hR.mono ?_
    rintro e W6 (⟨rfl, hJ6, hk6⟩ | ⟨rfl, hJx6⟩)
    · have hc6 := hc4.kept hk6
      have hB6 := hB4.trans hk6.1
      clear hR hy
      gi_wp2
      go_roundw
      case rel => exact ⟨c + 1, by go_num, hB6, hc6, by rw [hsu.out]; exact hJ6⟩
      case measure => simp [intOf]; omega
    · gi_wp2
      go_end0
      exact ⟨⟨_, rfl⟩, .inr ⟨blocksL k n c ++ [X], by rw [← hsu.out, length_blocksL], hJx6⟩⟩
def flatB (l : List B32) : List UInt8 := l.flatMap (·.1)
theorem flat_blocks (k n : List UInt8) : ∀ c, flatB (blocksL k n c) = streamC k n c
  | 0 => rfl
  | c + 1 => by rw [blocksL_succ, streamC, ← flat_blocks k n c]; unfold flatB; rw [List.flatMap_append]; simp [blkB]
theorem length_flatB : ∀ l : List B32, (flatB l).length = 32 * l.length
  | [] => rfl
  | x :: l => by
    unfold flatB
    rw [List.flatMap_cons, List.length_append, x.2, List.length_cons]
    have := length_flatB l
    unfold flatB at this
    omega
theorem flatB_snoc (l : List B32) (x : B32) : flatB (l ++ [x]) = flatB l ++ x.1 := by unfold flatB; rw [List.flatMap_append]; simp
end Go.Proofs.YtjpdhdfophjnpaaDoor
