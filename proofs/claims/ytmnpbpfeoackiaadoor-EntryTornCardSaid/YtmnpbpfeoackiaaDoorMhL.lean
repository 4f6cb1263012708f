/-
  Package frame: Put. Condition: the frame's mark is one that an int holds. · Package frame's reference: Put. Condition: the mark is one that an int holds.
-/
import Derived.Test.YtmnpbpfeoackiaaDoorMhK
import Derived.Test.YtmnpbpfeoackiaaDoorOct3
import Derived.Test.YtmnpbpfeoackiaaDoorInv2
import Derived.Test.YtmnpbpfeoackiaaDoorShelf
namespace Go.Proofs.YtmnpbpfeoackiaaDoor
open Go.RowKit

abbrev frCells (f : Frm) : Array Value := #[.int .i64 f.m, .int .i64 f.k, .string (ofL f.t)]
abbrev frV (f : Frm) : Value := .agg (frCells f)
/-- A frame in a box. -/
def FrB (w : World) (o : Nat) (f : Frm) : Prop := w.heap[o]? = some (.cells (frCells f) 120 (0, 0))
theorem FrB.cells {w : World} {o : Nat} {f : Frm} (h : FrB w o f) : w.cell? ⟨o, 0, none⟩ = some (.int .i64 f.m) ∧ w.cell? ⟨o, 1, none⟩ = some (.int .i64 f.k) ∧ w.cell? ⟨o, 2, none⟩ = some (.string (ofL f.t)) ∧ (∀ i, w.frozen? ⟨o, i, none⟩ = false) := by
  have hc := fun i => cell_of_row w o i _ _ _ h
  have hf := fun i => frozen_of_row w o i _ _ h
  exact ⟨hc 0, hc 1, hc 2, hf⟩
theorem FrB.lt {w : World} {o : Nat} {f : Frm} (h : FrB w o f) : o < w.heap.size := (Array.getElem?_eq_some_iff.1 h).1
theorem FrB.ext {w w' : World} {o : Nat} {f : Frm} (h : FrB w o f) (hE : Ext w w') : FrB w' o f := (hE.block o h.lt).trans h
theorem fr_box (w : World) (f : Frm) : ∃ w2, w2 = w.alloc (.cells (frCells f) 120) ∧ Ext w w2 ∧ w2.heap.size = w.heap.size + 1 ∧ FrB w2 w.heap.size f :=
  ⟨_, rfl, (Ext.rfl' _).al _, by simp, heap_alloc_new w _⟩

theorem join4 (a b c d : List UInt8) : Lib.join ([ofL a, ofL b, ofL c, ofL d].map (·.data.toList)) (⟨#[]⟩ : ByteArray).data.toList = a ++ (b ++ (c ++ d)) := by
  simp [Lib.join, ofL]
theorem padL_110 {t : List UInt8} (_h : t.length ≤ 110) : padL t 110 = t ++ List.replicate (110 - t.length) 0 := by
  unfold padL; congr 2

set_option maxRecDepth 100000 in
set_option maxHeartbeats 2000000 in
theorem fput (f : Frm) (w : World) (hm : f.m < 9223372036854775808) :
    Calls Tryd.prog 76 #[frV f] w fun e w' => e = .returned (.tuple #[.string (ofL (frPut f).1), .int .i64 (frPut f).2]) ∧ Ext w w' := by
  obtain ⟨w2, hw2, hE2, hz2, b2⟩ := fr_box w f
  have HW2 := Lib.hid hw2; clear hw2
  obtain ⟨m, k, t⟩ := f
  obtain ⟨c0, c1, c2, cf⟩ := b2.cells
  have hsz : (ofL t).size = t.length := size_ofL _
  dsimp only at c0 c1 c2 hm
  by_cases ha : m < 1 ∨ k < 0 ∨ 255 < k
  · rw [frPut_arg ha]
    have hcase : decide (m < 1) = true ∨ (decide (m < 1) = false ∧ decide (k < 0) = true) ∨ (decide (m < 1) = false ∧ decide (k < 0) = false ∧ decide (255 < k) = true) := by
      simp only [decide_eq_true_eq, decide_eq_false_iff_not]
      omega
    clear ha
    rcases hcase with q1 | ⟨q1, q2⟩ | ⟨q1, q2, q3⟩ <;>
    · go_enter Tryd.func76, Tryd.ntmps76
      go_wp2_with fail
      rw [← HW2.out]
      go_wp2
      refine bodyPost_ret (v := .tuple #[.string (ofL []), .int .i64 7]) (by simp [results, Tryd.results76, go_sem]; rfl) rfl ?_
      exact ⟨rfl, hE2⟩
  · have hcase : decide (m < 1) = false ∧ decide (k < 0) = false ∧ decide (255 < k) = false := by
      simp only [decide_eq_false_iff_not]
      omega
    obtain ⟨q1, q2, q3⟩ := hcase
    by_cases hl : 110 < t.length
    · rw [frPut_limit ha hl]
      have q4 : decide ((110 : Int) < t.length) = true := by simp; omega
      clear ha hl
      go_enter Tryd.func76, Tryd.ntmps76
      go_wp2_with fail
      rw [← HW2.out]
      go_wp2
      refine bodyPost_ret (v := .tuple #[.string (ofL []), .int .i64 3]) (by simp [results, Tryd.results76, go_sem]; rfl) rfl ?_
      exact ⟨rfl, hE2⟩
    · rw [frPut_ok ha hl]
      have q4 : decide ((110 : Int) < t.length) = false := by simp; omega
      obtain ⟨m, rfl⟩ : ∃ n : Nat, m = n := ⟨m.toNat, by omega⟩
      obtain ⟨k, rfl⟩ : ∃ n : Nat, k = n := ⟨k.toNat, by omega⟩
      have hk : k ≤ 255 := by omega
      have hm' : m < 9223372036854775808 := by omega
      have hl : t.length ≤ 110 := by omega
      have u1 : IntKind.u8.wrap (k : Int) = (k : Int) := IntWalk.u8_in _ (by omega)
      have u2 : IntKind.u8.wrap (t.length : Int) = (t.length : Int) := IntWalk.u8_in _ (by omega)
      have hs : ∀ (W : World) (b : Nat), W.cell? ⟨b, 0, none⟩ = some (.int .u8 k) → W.cell? ⟨b, 1, none⟩ = some (.int .u8 t.length) → (convert 56 9 (.slice (some ⟨b, 0, none⟩) 2 2)).run Tryd.prog W = .ok (.string (ofL [k.toUInt8, t.length.toUInt8])) W := fun W b h0 h1 =>
        run_str_cells W _ _ _ Tryd.underlying56 Tryd.underlying5 Tryd.underlying9 ⟨b, 0, none⟩ 2 2 [k.toUInt8, t.length.toUInt8] rfl (fun j u hu => by
          have e1 : U8 k.toUInt8 = .int .u8 k := by unfold U8; rw [UInt8.toNat_ofNat', Nat.mod_eq_of_lt (by omega)]
          have e2 : U8 t.length.toUInt8 = .int .u8 t.length := by unfold U8; rw [UInt8.toNat_ofNat', Nat.mod_eq_of_lt (by omega)]
          match j, hu with
          | 0, hu => rw [← Option.some.inj hu, e1]; exact h0
          | 1, hu => rw [← Option.some.inj hu, e2]; exact h1)
      have hP := padL_110 hl
      have hF : frBytes m k t = leN 8 m ++ ([k.toUInt8, t.length.toUInt8] ++ (padL t 110 ++ leN 8 m)) := by
        rw [hP, List.append_assoc]; rfl
      rw [Int.toNat_natCast, Int.toNat_natCast, hF]
      clear hF ha
      have HP := Lib.hid hP; clear hP
      go_enter Tryd.func76, Tryd.ntmps76
      go_upto_region 5 with fail
      rw [← HW2.out]
      clear HW2
      refine wp_region_locals (fun i v W => match i with
        | 0 => v = .pointer (some ⟨w.heap.size, 0, none⟩)
        | 1 => v = .int .i64 m
        | 2 => v = .string (ofL (leN 8 m))
        | 3 => v = .pointer (some ⟨w.heap.size, 1, none⟩)
        | 4 => v = .int .i64 k
        | 5 => v = .int .u8 k
        | 6 => v = .pointer (some ⟨w.heap.size, 2, none⟩)
        | 7 => v = .string (ofL t)
        | 8 => v = .int .i64 t.length
        | 9 => v = .int .u8 t.length
        | 10 => ∃ b, v = .slice (some ⟨b, 0, none⟩) 2 2 ∧ W.cell? ⟨b, 0, none⟩ = some (.int .u8 k) ∧ W.cell? ⟨b, 1, none⟩ = some (.int .u8 t.length)
        | 11 => v = .string (ofL [k.toUInt8, t.length.toUInt8])
        | 12 => v = .pointer (some ⟨w.heap.size, 2, none⟩)
        | 13 => v = .string (ofL t)
        | 14 => v = .string (ofL (padL t 110))
        | 15 => v = .pointer (some ⟨w.heap.size, 0, none⟩)
        | 16 => v = .int .i64 m
        | 17 => v = .string (ofL (leN 8 m))
        | 18 => ∃ b, v = .slice (some ⟨b, 0, none⟩) 4 4 ∧ W.cell? ⟨b, 0, none⟩ = some (.string (ofL (leN 8 m))) ∧ W.cell? ⟨b, 1, none⟩ = some (.string (ofL [k.toUInt8, t.length.toUInt8])) ∧ W.cell? ⟨b, 2, none⟩ = some (.string (ofL (padL t 110))) ∧ W.cell? ⟨b, 3, none⟩ = some (.string (ofL (leN 8 m)))
        | 19 => v = .string (ofL (leN 8 m ++ ([k.toUInt8, t.length.toUInt8] ++ (padL t 110 ++ leN 8 m))))
        | 20 => v = .string (ofL (leN 8 m ++ ([k.toUInt8, t.length.toUInt8] ++ (padL t 110 ++ leN 8 m))))
        | 21 => v = .int .i64 0
        | _ => True) (by kernel_rfl) (by kernel_rfl) (by kernel_rfl) ?_ ?_ ?_
      · intro i v W1 W2 e1 e2 h
        match i, h with
        | 10, ⟨b, h1, h2, h3⟩ => exact ⟨b, h1, ((bcell e2).1 b 0 (World.block_lt_of_cell? _ _ h2)).trans h2, ((bcell e2).1 b 1 (World.block_lt_of_cell? _ _ h2)).trans h3⟩
        | 18, ⟨b, h1, h2, h3, h4, h5⟩ => exact ⟨b, h1, ((bcell e2).1 b 0 (World.block_lt_of_cell? _ _ h2)).trans h2, ((bcell e2).1 b 1 (World.block_lt_of_cell? _ _ h2)).trans h3, ((bcell e2).1 b 2 (World.block_lt_of_cell? _ _ h2)).trans h4, ((bcell e2).1 b 3 (World.block_lt_of_cell? _ _ h2)).trans h5⟩
        | 0, h => exact h
        | 1, h => exact h
        | 2, h => exact h
        | 3, h => exact h
        | 4, h => exact h
        | 5, h => exact h
        | 6, h => exact h
        | 7, h => exact h
        | 8, h => exact h
        | 9, h => exact h
        | 11, h => exact h
        | 12, h => exact h
        | 13, h => exact h
        | 14, h => exact h
        | 15, h => exact h
        | 16, h => exact h
        | 17, h => exact h
        | 19, h => exact h
        | 20, h => exact h
        | 21, h => exact h
        | (i + 22), h => exact h
      · refine locals_cons (fun u W hE hd => leaves_val rfl (v := .pointer (some ⟨w.heap.size, 0, none⟩)) (by go_simp) rfl) ?_
        refine locals_cons (fun u W hE hd => ?_) ?_
        · have h1 : u 0 = _ := hd 0 (by kernel_rfl)
          have h2 := (b2.ext hE).cells.1
          exact leaves_val rfl (v := .int .i64 m) (by go_simp) rfl
        refine locals_cons (fun u W hE hd => ?_) ?_
        · have h1 : u 1 = _ := hd 1 (by kernel_rfl)
          exact leaves_call rfl (f := 100) (args := #[.int .i64 m]) (by go_simp) ((mark_any m W hm').mono (by rintro e9 W9 ⟨rfl, h9⟩; exact ⟨_, rfl, h9, rfl⟩))
        refine locals_cons (fun u W hE hd => leaves_val rfl (v := .pointer (some ⟨w.heap.size, 1, none⟩)) (by go_simp) rfl) ?_
        refine locals_cons (fun u W hE hd => ?_) ?_
        · have h1 : u 3 = _ := hd 3 (by kernel_rfl)
          have h2 := (b2.ext hE).cells.2.1
          exact leaves_val rfl (v := .int .i64 k) (by go_simp) rfl
        refine locals_cons (fun u W hE hd => ?_) ?_
        · have h1 : u 4 = _ := hd 4 (by kernel_rfl)
          exact leaves_val rfl (v := .int .u8 k) (by go_simp) rfl
        refine locals_cons (fun u W hE hd => leaves_val rfl (v := .pointer (some ⟨w.heap.size, 2, none⟩)) (by go_simp) rfl) ?_
        refine locals_cons (fun u W hE hd => ?_) ?_
        · have h1 : u 6 = _ := hd 6 (by kernel_rfl)
          have h2 := (b2.ext hE).cells.2.2.1
          exact leaves_val rfl (v := .string (ofL t)) (by go_simp) rfl
        refine locals_cons (fun u W hE hd => ?_) ?_
        · have h1 : u 7 = _ := hd 7 (by kernel_rfl)
          exact leaves_val rfl (v := .int .i64 t.length) (by go_simp) rfl
        refine locals_cons (fun u W hE hd => ?_) ?_
        · have h1 : u 8 = _ := hd 8 (by kernel_rfl)
          exact leaves_val rfl (v := .int .u8 t.length) (by go_simp) rfl
        refine locals_cons (fun u W hE hd => ?_) ?_
        · have h1 : u 5 = _ := hd 5 (by kernel_rfl)
          have h2 : u 9 = _ := hd 9 (by kernel_rfl)
          exact leaves_new rfl (v := .slice (some ⟨W.heap.size, 0, none⟩) 2 2) (by go_simp; rfl) ((Ext.rfl' W).al _) ⟨_, rfl, by simp [go_sem], by simp [go_sem]⟩
        refine locals_cons (fun u W hE hd => ?_) ?_
        · obtain ⟨b, h1, h2, h3⟩ := hd 10 (by kernel_rfl)
          have hs := hs W b h2 h3
          exact leaves_val rfl (v := .string (ofL [k.toUInt8, t.length.toUInt8])) (by go_simp) rfl
        refine locals_cons (fun u W hE hd => leaves_val rfl (v := .pointer (some ⟨w.heap.size, 2, none⟩)) (by go_simp) rfl) ?_
        refine locals_cons (fun u W hE hd => ?_) ?_
        · have h1 : u 12 = _ := hd 12 (by kernel_rfl)
          have h2 := (b2.ext hE).cells.2.2.1
          exact leaves_val rfl (v := .string (ofL t)) (by go_simp) rfl
        refine locals_cons (fun u W hE hd => ?_) ?_
        · have h1 : u 13 = _ := hd 13 (by kernel_rfl)
          exact leaves_call rfl (f := 101) (args := #[.string (ofL t), .int .i64 110]) (by go_simp) ((pad_any (ofL t) 110 W (by omega)).mono (by rintro e9 W9 ⟨rfl, h9⟩; exact ⟨_, rfl, h9, show Value.string (ofL (padL (toL (ofL t)) 110)) = .string (ofL (padL t 110)) from by rw [toL_ofL]⟩))
        refine locals_cons (fun u W hE hd => leaves_val rfl (v := .pointer (some ⟨w.heap.size, 0, none⟩)) (by go_simp) rfl) ?_
        refine locals_cons (fun u W hE hd => ?_) ?_
        · have h1 : u 15 = _ := hd 15 (by kernel_rfl)
          have h2 := (b2.ext hE).cells.1
          exact leaves_val rfl (v := .int .i64 m) (by go_simp) rfl
        refine locals_cons (fun u W hE hd => ?_) ?_
        · have h1 : u 16 = _ := hd 16 (by kernel_rfl)
          exact leaves_call rfl (f := 100) (args := #[.int .i64 m]) (by go_simp) ((mark_any m W hm').mono (by rintro e9 W9 ⟨rfl, h9⟩; exact ⟨_, rfl, h9, rfl⟩))
        refine locals_cons (fun u W hE hd => ?_) ?_
        · have h1 : u 2 = _ := hd 2 (by kernel_rfl)
          have h2 : u 11 = _ := hd 11 (by kernel_rfl)
          have h3 : u 14 = _ := hd 14 (by kernel_rfl)
          have h4 : u 17 = _ := hd 17 (by kernel_rfl)
          exact leaves_new rfl (v := .slice (some ⟨W.heap.size, 0, none⟩) 4 4) (by go_simp; rfl) ((Ext.rfl' W).al _) ⟨_, rfl, by simp [go_sem], by simp [go_sem], by simp [go_sem], by simp [go_sem]⟩
        refine locals_cons (fun u W hE hd => ?_) ?_
        · obtain ⟨b, h1, h2, h3, h4, h5⟩ := hd 18 (by kernel_rfl)
          refine leaves_call rfl (f := 99) (args := #[.slice (some ⟨b, 0, none⟩) 4 4, .string ⟨#[]⟩]) (by go_simp) ((Tryd.strings_Join b 0 4 [ofL (leN 8 m), ofL [k.toUInt8, t.length.toUInt8], ofL (padL t 110), ofL (leN 8 m)] ⟨#[]⟩ W ?_ (World.block_lt_of_cell? _ _ h2) (by simp) (by simp) ?_).mono ?_)
          · intro j x hx
            rw [Nat.zero_add]
            match j, hx with
            | 0, hx => rw [← Option.some.inj hx]; exact h2
            | 1, hx => rw [← Option.some.inj hx]; exact h3
            | 2, hx => rw [← Option.some.inj hx]; exact h4
            | 3, hx => rw [← Option.some.inj hx]; exact h5
          · rw [join4, HP.out]
            simp [length_leN]
            omega
          · rintro e9 W9 ⟨rfl, h9⟩
            refine ⟨_, rfl, h9, ?_⟩
            rw [join4]
            rfl
        refine locals_cons (fun u W hE hd => ?_) ?_
        · have h1 : u 19 = _ := hd 19 (by kernel_rfl)
          exact leaves_val rfl (v := .string (ofL (leN 8 m ++ ([k.toUInt8, t.length.toUInt8] ++ (padL t 110 ++ leN 8 m))))) (by go_simp) rfl
        exact locals_cons (fun u W hE hd => leaves_val rfl (v := .int .i64 0) (by go_simp) rfl) locals_nil
      · intro u w5 E5 hV
        have h20 : u 20 = _ := hV 20 (by decide)
        have h21 : u 21 = _ := hV 21 (by decide)
        clear hs hV
        go_wp2
        refine bodyPost_ret (v := .tuple #[.string (ofL (leN 8 m ++ ([k.toUInt8, t.length.toUInt8] ++ (padL t 110 ++ leN 8 m)))), .int .i64 0]) (by simp [results, Tryd.results76, go_sem, h20, h21]) rfl ?_
        exact ⟨rfl, hE2.tr E5⟩
end Go.Proofs.YtmnpbpfeoackiaaDoor

namespace Go.Proofs.YtmnpbpfeoackiaaDoor
open Go.RowKit

theorem byteOf_small {k : Nat} (_h : k ≤ 255) : byteOf (k : Int) = k.toUInt8 := by
  unfold byteOf
  rw [show ((k : Int) % 256).toNat = k by omega]

set_option maxRecDepth 100000 in
set_option maxHeartbeats 2000000 in
theorem rfput (f : Frm) (w : World) (hm : f.m < 9223372036854775808) :
    Calls Tryd.prog 79 #[.int .i64 f.m, .int .i64 f.k, .string (ofL f.t)] w fun e w' => e = .returned (.tuple #[.string (ofL (frPut f).1), .int .i64 (frPut f).2]) ∧ Ext w w' := by
  obtain ⟨m, k, t⟩ := f
  have hsz : (ofL t).size = t.length := size_ofL _
  dsimp only at hm
  by_cases ha : m < 1 ∨ k < 0 ∨ 255 < k
  · rw [frPut_arg ha]
    have hcase : decide (m < 1) = true ∨ (decide (m < 1) = false ∧ decide (k < 0) = true) ∨ (decide (m < 1) = false ∧ decide (k < 0) = false ∧ decide (255 < k) = true) := by
      simp only [decide_eq_true_eq, decide_eq_false_iff_not]
      omega
    clear ha
    rcases hcase with q1 | ⟨q1, q2⟩ | ⟨q1, q2, q3⟩ <;>
    · go_enter Tryd.func79, Tryd.ntmps79
      go_wp2
      refine bodyPost_ret (v := .tuple #[.string (ofL []), .int .i64 7]) (by simp [results, Tryd.results79, go_sem]; rfl) rfl ?_
      exact ⟨rfl, Ext.rfl' _⟩
  · have hcase : decide (m < 1) = false ∧ decide (k < 0) = false ∧ decide (255 < k) = false := by
      simp only [decide_eq_false_iff_not]
      omega
    obtain ⟨q1, q2, q3⟩ := hcase
    by_cases hl : 110 < t.length
    · rw [frPut_limit ha hl]
      have q4 : decide ((110 : Int) < t.length) = true := by simp; omega
      clear ha hl
      go_enter Tryd.func79, Tryd.ntmps79
      go_wp2
      refine bodyPost_ret (v := .tuple #[.string (ofL []), .int .i64 3]) (by simp [results, Tryd.results79, go_sem]; rfl) rfl ?_
      exact ⟨rfl, Ext.rfl' _⟩
    · rw [frPut_ok ha hl]
      have q4 : decide ((110 : Int) < t.length) = false := by simp; omega
      obtain ⟨m, rfl⟩ : ∃ n : Nat, m = n := ⟨m.toNat, by omega⟩
      obtain ⟨k, rfl⟩ : ∃ n : Nat, k = n := ⟨k.toNat, by omega⟩
      have hk : k ≤ 255 := by omega
      have hm' : m < 9223372036854775808 := by omega
      have hl : t.length ≤ 110 := by omega
      have hP := padL_110 hl
      have zP : (padL t 110).length = 110 := by rw [hP]; simp; omega
      have zM : (leN 8 m).length = 8 := length_leN 8 m
      have hF : frBytes m k t = leN 8 m ++ ([k.toUInt8] ++ ([t.length.toUInt8] ++ (padL t 110 ++ leN 8 m))) := by
        rw [hP, List.append_assoc]; rfl
      rw [Int.toNat_natCast, Int.toNat_natCast, hF]
      have b1 := byteOf_small hk
      have b2 := byteOf_small (k := t.length) (by omega)
      obtain ⟨P, hPe⟩ : ∃ P, padL t 110 = P := ⟨_, rfl⟩
      rw [hPe] at zP ⊢
      obtain ⟨M, hMe⟩ : ∃ M, leN 8 m = M := ⟨_, rfl⟩
      rw [hMe] at zM ⊢
      obtain ⟨K, hK⟩ : ∃ K, [k.toUInt8] = K := ⟨_, rfl⟩
      obtain ⟨T, hT⟩ : ∃ T, [t.length.toUInt8] = T := ⟨_, rfl⟩
      rw [hK, hT]
      have zK : K.length = 1 := by rw [← hK]; rfl
      have zT : T.length = 1 := by rw [← hT]; rfl
      have sizes : (ofL M).size = 8 ∧ (ofL K).size = 1 ∧ (ofL T).size = 1 ∧ (ofL P).size = 110 := by simp only [size_ofL]; omega
      obtain ⟨zM, zK, zT, zP⟩ := sizes
      obtain ⟨S1, x1, y1⟩ : ∃ S : ByteArray, ofL M ++ ofL K = S ∧ S.size = 9 := ⟨_, rfl, by rw [ByteArray.size_append]; omega⟩
      obtain ⟨S2, x2, y2⟩ : ∃ S : ByteArray, S1 ++ ofL T = S ∧ S.size = 10 := ⟨_, rfl, by rw [ByteArray.size_append]; omega⟩
      obtain ⟨S3, x3, y3⟩ : ∃ S : ByteArray, S2 ++ ofL P = S ∧ S.size = 120 := ⟨_, rfl, by rw [ByteArray.size_append]; omega⟩
      have x4 : S3 ++ ofL M = ofL (M ++ (K ++ (T ++ (P ++ M)))) := by rw [← x3, ← x2, ← x1]; simp only [ofL_append, List.append_assoc]
      obtain ⟨S4, hS4⟩ : ∃ S, ofL (M ++ (K ++ (T ++ (P ++ M)))) = S := ⟨_, rfl⟩
      rw [hS4] at x4
      dsimp only
      rw [hS4]
      clear hS4
      have HPe := Lib.hid hPe; clear hPe hP
      have HMe := Lib.hid hMe; clear hMe
      have HK := Lib.hid (b1 ▸ hK : [byteOf (k : Int)] = K); clear hK b1
      have HT := Lib.hid (b2 ▸ hT : [byteOf (t.length : Int)] = T); clear hT b2
      clear hF ha
      go_enter Tryd.func79, Tryd.ntmps79
      go_wp2_with fail
      refine (rmark_any m _ hm').mono ?_
      rintro e w1 ⟨rfl, E1⟩
      rw [HMe.out]
      go_wp2_with fail
      refine (rbyte_any _ _).mono ?_
      rintro e w2 ⟨rfl, E2⟩
      rw [HK.out]
      go_wp2_with fail
      refine (rbyte_any _ _).mono ?_
      rintro e w3 ⟨rfl, E3⟩
      rw [HT.out]
      go_wp2_with fail
      refine (rpad_any (ofL t) 110 _ (by omega)).mono ?_
      rintro e w4 ⟨rfl, E4⟩
      rw [toL_ofL, HPe.out]
      go_wp2_with fail
      refine (rmark_any m _ hm').mono ?_
      rintro e w5 ⟨rfl, E5⟩
      rw [HMe.out]
      go_wp2
      refine bodyPost_ret (v := .tuple #[.string S4, .int .i64 0]) (by simp [results, Tryd.results79, go_sem]) rfl ?_
      exact ⟨rfl, (((E1.tr E2).tr E3).tr E4).tr E5⟩
end Go.Proofs.YtmnpbpfeoackiaaDoor
