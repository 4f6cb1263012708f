/-
  Package sha's reference: words as bytes. No condition.
-/
import Derived.Test.YteffocenfkcofaaDoorSha11
import Derived.Test.YteffocenfkcofaaDoorInv5
namespace Go.Proofs.YteffocenfkcofaaDoor
open Go.RowKit

def stW (v : St) : List UInt32 := [v.a, v.b, v.c, v.d, v.e, v.f, v.g, v.h]
theorem tellS_W (v : St) : tellS v = (stW v).flatMap tell4 := by
  unfold tellS stW
  simp only [List.flatMap_cons, List.flatMap_nil, List.append_nil]
theorem length_tell4 (x : UInt32) : (tell4 x).length = 4 := rfl
theorem length_tells : ∀ l : List UInt32, (l.flatMap tell4).length = 4 * l.length
  | [] => rfl
  | x :: l => by rw [List.flatMap_cons, List.length_append, length_tell4, length_tells l, List.length_cons]; omega
theorem slice4 {w : World} {b : Nat} {x0 x1 x2 x3 : Value} (h0 : w.cell? ⟨b, 0, none⟩ = some x0) (h1 : w.cell? ⟨b, 1, none⟩ = some x1) (h2 : w.cell? ⟨b, 2, none⟩ = some x2) (h3 : w.cell? ⟨b, 3, none⟩ = some x3) :
    ∀ j u, [x0, x1, x2, x3][j]? = some u → w.cell? ((⟨b, 0, none⟩ : Addr).add j) = some u := by
  intro j u hu
  rw [WideShapes.add_plain, Nat.zero_add]
  match j, hu with
  | 0, hu => rw [← Option.some.inj hu]; exact h0
  | 1, hu => rw [← Option.some.inj hu]; exact h1
  | 2, hu => rw [← Option.some.inj hu]; exact h2
  | 3, hu => rw [← Option.some.inj hu]; exact h3

set_option maxRecDepth 100000 in
set_option maxHeartbeats 4000000 in
theorem rtell_any (v : St) (w : World) : Calls Tryd.prog 84 #[stV v] w fun e w' => e = .returned (.string (ofL (tellS v))) ∧ Ext w w' := by
  obtain ⟨L, hL⟩ : ∃ L, stW v = L := ⟨_, rfl⟩
  have hl : L.length = 8 := by rw [← hL]; rfl
  have A00 : ∀ w : World, Arr (w.alloc (.cells (stCells v) 91)) w.heap.size 91 (L.map W32) := fun w => by rw [← hL]; exact Arr.new w 91 (stL v)
  rw [tellS_W, hL]
  have HA := Lib.hid A00
  clear A00 hL
  go_enter Tryd.func84, Tryd.ntmps84
  go_wp2
  go_loopw [3, 4] (fun b i wr => ∃ k : Nat, ∃ vb : Value, vb = b ∧ k ≤ 8 ∧ i = .int .i64 k ∧ Ext w wr ∧ Arr wr w.heap.size 91 (L.map W32) ∧ wr.ownsRow (w.heap.size + 1) 5 1 vb (4 * k) (((L.take k).flatMap tell4).map U8)) (fun _ i _ => 8 - (intOf i).toNat)
  case atStart => exact ⟨0, _, rfl, by omega, rfl, (Ext.rfl' _).al _, HA.out w, World.ownsRow_nil _ _ _ _⟩
  case round =>
    clear HA
    obtain ⟨k, vb, rfl, hk, rfl, hE, A0, hown⟩ := hrel
    by_cases hlt : k < 8
    · obtain ⟨x, hx⟩ : ∃ x, L[k]'(by omega) = x := ⟨_, rfl⟩
      have hcell : ∀ W, Ext wr W → W.cell? ⟨w.heap.size, k, none⟩ = some (W32 x) := fun W hW => by
        rw [(A0.ext hW A0.lt).cell k, List.getElem?_map, List.getElem?_eq_getElem (by omega), hx]; rfl
      have htk : (L.take (k + 1)).flatMap tell4 = (L.take k).flatMap tell4 ++ tell4 x := by
        rw [List.take_succ_eq_append_getElem (by omega), hx, List.flatMap_append]; simp
      have hx32 := x.toNat_lt
      have HT := Lib.hid htk; have HC := Lib.hid hcell
      clear htk hcell hx hl
      go_upto_region 5 with fail
      refine wp_region_tails (fun i v W => match i with
        | 0 => v = vb
        | 1 => v = .int .i64 k
        | 2 => v = .pointer (some ⟨w.heap.size, k, none⟩)
        | 3 => v = W32 x
        | 4 => v = .int .u32 ((x.toNat : Int) / 16777216)
        | 5 => v = .int .u8 ((x.toNat : Int) / 16777216 % 256)
        | 6 => v = .int .i64 k
        | 7 => v = .pointer (some ⟨w.heap.size, k, none⟩)
        | 8 => v = W32 x
        | 9 => v = .int .u32 ((x.toNat : Int) / 65536)
        | 10 => v = .int .u8 ((x.toNat : Int) / 65536 % 256)
        | 11 => v = .int .i64 k
        | 12 => v = .pointer (some ⟨w.heap.size, k, none⟩)
        | 13 => v = W32 x
        | 14 => v = .int .u32 ((x.toNat : Int) / 256)
        | 15 => v = .int .u8 ((x.toNat : Int) / 256 % 256)
        | 16 => v = .int .i64 k
        | 17 => v = .pointer (some ⟨w.heap.size, k, none⟩)
        | 18 => v = W32 x
        | 19 => v = .int .u8 ((x.toNat : Int) % 256)
        | 20 => ∃ b, v = .slice (some ⟨b, 0, none⟩) 4 4 ∧ W.cell? ⟨b, 0, none⟩ = some (.int .u8 ((x.toNat : Int) / 16777216 % 256)) ∧ W.cell? ⟨b, 1, none⟩ = some (.int .u8 ((x.toNat : Int) / 65536 % 256)) ∧ W.cell? ⟨b, 2, none⟩ = some (.int .u8 ((x.toNat : Int) / 256 % 256)) ∧ W.cell? ⟨b, 3, none⟩ = some (.int .u8 ((x.toNat : Int) % 256))
        | _ => True) 21 (by kernel_rfl) (by kernel_rfl) (by kernel_rfl) (by decide) (by kernel_rfl) (by kernel_rfl) (by kernel_rfl) ?_ ?_ ?_
      · intro i v W1 W2 e1 e2 h
        match i, h with
        | 20, ⟨b, h1, h2, h3, h4, h5⟩ => exact ⟨b, h1, ((bcell e2).1 b 0 (World.block_lt_of_cell? _ _ h2)).trans h2, ((bcell e2).1 b 1 (World.block_lt_of_cell? _ _ h2)).trans h3, ((bcell e2).1 b 2 (World.block_lt_of_cell? _ _ h2)).trans h4, ((bcell e2).1 b 3 (World.block_lt_of_cell? _ _ h2)).trans h5⟩
        | 0, h => exact h
        | 1, h => exact h
        | 2, h => exact h
        | 3, h => exact h
        | 4, h => exact h
        | 5, h => exact h
        | 6, h => exact h
        | 7, h => exact h
        | 8, h => exact h
        | 9, h => exact h
        | 10, h => exact h
        | 11, h => exact h
        | 12, h => exact h
        | 13, h => exact h
        | 14, h => exact h
        | 15, h => exact h
        | 16, h => exact h
        | 17, h => exact h
        | 18, h => exact h
        | 19, h => exact h
        | (i + 21), h => exact h
      · refine localsR_cons (fun u W hW hd => leaves_val rfl (v := vb) (by go_simp) rfl) ?_
        refine localsR_cons (fun u W hW hd => leaves_val rfl (v := .int .i64 k) (by go_simp) rfl) ?_
        refine localsR_cons (fun u W hW hd => ?_) ?_
        · have h1 : u 1 = _ := hd 1 (by kernel_rfl)
          exact leaves_val rfl (v := .pointer (some ⟨w.heap.size, k, none⟩)) (by go_simp) rfl
        refine localsR_cons (fun u W hW hd => ?_) ?_
        · have h2 : u 2 = _ := hd 2 (by kernel_rfl)
          have hc := HC.out W hW
          exact leaves_val rfl (v := W32 x) (by go_simp) rfl
        refine localsR_cons (fun u W hW hd => ?_) ?_
        · have h3 : u 3 = _ := hd 3 (by kernel_rfl)
          exact leaves_val rfl (v := .int .u32 ((x.toNat : Int) / 16777216)) (by go_simp) rfl
        refine localsR_cons (fun u W hW hd => ?_) ?_
        · have h4 : u 4 = _ := hd 4 (by kernel_rfl)
          exact leaves_val rfl (v := .int .u8 ((x.toNat : Int) / 16777216 % 256)) (by go_simp; rfl) rfl
        refine localsR_cons (fun u W hW hd => leaves_val rfl (v := .int .i64 k) (by go_simp) rfl) ?_
        refine localsR_cons (fun u W hW hd => ?_) ?_
        · have h6 : u 6 = _ := hd 6 (by kernel_rfl)
          exact leaves_val rfl (v := .pointer (some ⟨w.heap.size, k, none⟩)) (by go_simp) rfl
        refine localsR_cons (fun u W hW hd => ?_) ?_
        · have h7 : u 7 = _ := hd 7 (by kernel_rfl)
          have hc := HC.out W hW
          exact leaves_val rfl (v := W32 x) (by go_simp) rfl
        refine localsR_cons (fun u W hW hd => ?_) ?_
        · have h8 : u 8 = _ := hd 8 (by kernel_rfl)
          exact leaves_val rfl (v := .int .u32 ((x.toNat : Int) / 65536)) (by go_simp) rfl
        refine localsR_cons (fun u W hW hd => ?_) ?_
        · have h9 : u 9 = _ := hd 9 (by kernel_rfl)
          exact leaves_val rfl (v := .int .u8 ((x.toNat : Int) / 65536 % 256)) (by go_simp; rfl) rfl
        refine localsR_cons (fun u W hW hd => leaves_val rfl (v := .int .i64 k) (by go_simp) rfl) ?_
        refine localsR_cons (fun u W hW hd => ?_) ?_
        · have h11 : u 11 = _ := hd 11 (by kernel_rfl)
          exact leaves_val rfl (v := .pointer (some ⟨w.heap.size, k, none⟩)) (by go_simp) rfl
        refine localsR_cons (fun u W hW hd => ?_) ?_
        · have h12 : u 12 = _ := hd 12 (by kernel_rfl)
          have hc := HC.out W hW
          exact leaves_val rfl (v := W32 x) (by go_simp) rfl
        refine localsR_cons (fun u W hW hd => ?_) ?_
        · have h13 : u 13 = _ := hd 13 (by kernel_rfl)
          exact leaves_val rfl (v := .int .u32 ((x.toNat : Int) / 256)) (by go_simp) rfl
        refine localsR_cons (fun u W hW hd => ?_) ?_
        · have h14 : u 14 = _ := hd 14 (by kernel_rfl)
          exact leaves_val rfl (v := .int .u8 ((x.toNat : Int) / 256 % 256)) (by go_simp; rfl) rfl
        refine localsR_cons (fun u W hW hd => leaves_val rfl (v := .int .i64 k) (by go_simp) rfl) ?_
        refine localsR_cons (fun u W hW hd => ?_) ?_
        · have h16 : u 16 = _ := hd 16 (by kernel_rfl)
          exact leaves_val rfl (v := .pointer (some ⟨w.heap.size, k, none⟩)) (by go_simp) rfl
        refine localsR_cons (fun u W hW hd => ?_) ?_
        · have h17 : u 17 = _ := hd 17 (by kernel_rfl)
          have hc := HC.out W hW
          exact leaves_val rfl (v := W32 x) (by go_simp) rfl
        refine localsR_cons (fun u W hW hd => ?_) ?_
        · have h18 : u 18 = _ := hd 18 (by kernel_rfl)
          exact leaves_val rfl (v := .int .u8 ((x.toNat : Int) % 256)) (by go_simp; rfl) rfl
        refine localsR_cons (fun u W hW hd => ?_) localsR_nil
        · have h5 : u 5 = _ := hd 5 (by kernel_rfl)
          have h10 : u 10 = _ := hd 10 (by kernel_rfl)
          have h15 : u 15 = _ := hd 15 (by kernel_rfl)
          have h19 : u 19 = _ := hd 19 (by kernel_rfl)
          exact leaves_new rfl (v := .slice (some ⟨W.heap.size, 0, none⟩) 4 4) (by go_simp; rfl) ((Ext.rfl' W).al _) ⟨_, rfl, by simp [go_sem], by simp [go_sem], by simp [go_sem], by simp [go_sem]⟩
      · intro u W hW hV
        have h0 : u 0 = vb := hV 0 (by decide)
        obtain ⟨bb, h20, k0, k1, k2, k3⟩ := hV 20 (by decide)
        clear hV
        have hown2 := own_ext hown (fun j _ hj => hW.block j hj)
        have hcells := slice4 k0 k1 k2 k3
        have hEW := hE.tr hW
        have hAW := A0.ext hW A0.lt
        refine wpl_app_at Tryd.elemU8 rfl _ _ rfl hown2 4 (by go_simp) (by go_simp; rfl) rfl hcells (by intro u hu; simp at hu; rcases hu with rfl | rfl | rfl | rfl <;> rfl) (by omega) (by omega) (by have := hEW.size; have := A0.lt; have := hW.size; omega) ?_
        intro v2 w2 hown3 hg3
        have hE3 := hEW.own hg3 hown2 (by omega)
        have hA3 : Arr w2 w.heap.size 91 (L.map W32) := by
          have hb := hown2.lt
          exact (hg3.block w.heap.size hAW.lt (fun hh => by have := hb _ hh.symm; omega)).trans hAW
        have hown4 := own_eq hown3 (ys := ((L.take (k + 1)).flatMap tell4).map U8) (m := 4 * (k + 1)) (by rw [HT.out, List.map_append, tell_cell]) (by omega)
        clear hown3 hg3 hcells k0 k1 k2 k3 hown2 hAW hEW hW hown hE A0 HC HT
        go_wp2
        go_roundw
        case rel => exact ⟨k + 1, v2, rfl, by omega, by go_num, hE3, hA3, hown4⟩
        case measure => simp [intOf]; omega
    · rw [List.take_of_length_le (by omega)] at hown
      have hcv := Tryd.str hown
      clear hown A0
      go_wp2
      go_ret
      exact ⟨rfl, hE⟩
end Go.Proofs.YteffocenfkcofaaDoor
