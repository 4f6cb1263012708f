/-
  Chapter 34's helpers: what is gone through; the chapter's examples hold. Condition: the package's table holds the constants.
-/
import Derived.Test.YteffocenfkcofaaDoorCh7
namespace Go.Proofs.YteffocenfkcofaaDoor
open Go.RowKit

def GreatPost2 (id tag : List UInt8) (l : List LinkL) (w : World) (e : Ending) (w' : World) : Prop := ∃ b, e = .returned (.bool b) ∧ (b = false → Small id tag l ∧ l.length ≤ 10) ∧ Ext w w'
set_option maxRecDepth 100000 in
theorem great34_any (id tag : List UInt8) (vl : Value) (l : List LinkL) (w : World) (hl : RdLinks w w.heap.size vl l) : Calls Tryd.prog 17 #[tokV id vl tag] w (GreatPost2 id tag l w) := by
  have E0 : Ext w (w.alloc (.cells #[.string (ofL id), vl, .string (ofL tag)] 31)) := (Ext.rfl' w).al _
  have c := Kp.mk (great_any id tag vl l _ (hl.ext E0 (Nat.le_refl _) |>.more E0.size))
  obtain ⟨A, cc, rfl, hlm, _⟩ := hl.cells
  unfold tokV at *
  by_cases h : 10 < l.length
  · go_enter Tryd.func17, Tryd.ntmps17
    go_wp2
    go_ret
    exact ⟨true, rfl, fun h => (by cases h), E0⟩
  · have d : decide ((10 : Int) < (l.length : Int)) = false := by simp; omega
    go_enter Tryd.func17, Tryd.ntmps17
    go_wp2_with fail
    refine c.out.mono ?_
    rintro e w1 ⟨b, rfl, hb, E1⟩
    go_wp2
    go_ret
    exact ⟨b, rfl, fun h2 => ⟨hb h2, by omega⟩, E0.tr E1⟩

set_option maxRecDepth 100000 in
set_option maxHeartbeats 4000000 in
theorem chworks_any (w : World) (hT : Tab w) : Calls Tryd.prog 18 #[] w fun e w' => e = .returned (.bool true) ∧ Ext w w' := by
  obtain ⟨R0, hR0⟩ : ∃ R0, rootL [107] [97] = R0 := ⟨_, rfl⟩
  obtain ⟨R1, hR1⟩ : ∃ R1, nextL R0 ([98], []) = R1 := ⟨_, rfl⟩
  obtain ⟨S0, hS0⟩ : ∃ S0, sealL [107] = S0 := ⟨_, rfl⟩
  have l0 : R0.length = 32 := by rw [← hR0]; exact length_partsL _ _
  have hlast : lastL [107] [97] [([98], [])] = R1 := by rw [← hR1, ← hR0]; rfl
  have htags : tagsL [107] [97] [([98], [])] = [R0, R1] := by rw [← hR1, ← hR0]; rfl
  have cT := Kp.mk (show ∀ W vl, Tab W → RdLinks W W.heap.size vl [([98], [])] → Calls Tryd.prog 19 #[.string ⟨#[107]⟩, .agg #[.string ⟨#[97]⟩, vl, .string ⟨#[]⟩]] W (RetOwn W 9 1 2 [.string (ofL R0), .string (ofL R1)]) from fun W vl h1 h2 => by
    have h := tags_any [107] [97] [] vl [([98], [])] W h1 (by decide) (by decide) h2 (by intro x hx; simp at hx; rw [hx]; decide) (by decide)
    rw [htags] at h
    exact h)
  have cL := Kp.mk (show ∀ W vl, Tab W → RdLinks W W.heap.size vl [([98], [])] → Calls Tryd.prog 22 #[.string ⟨#[107]⟩, .agg #[.string ⟨#[97]⟩, vl, .string ⟨#[]⟩]] W fun e w' => e = .returned (.string (ofL R1)) ∧ Ext W w' from fun W vl h1 h2 => by
    have h := last_any [107] [97] [] vl [([98], [])] W h1 (by decide) (by decide) h2 (by intro x hx; simp at hx; rw [hx]; decide) (by decide)
    rw [hlast] at h
    exact h)
  have cP0 := Kp.mk (show ∀ W v, Tab W → Rd W W.heap.size 1 v 2 ((rootParts [97]).map Str) → Calls Tryd.prog 47 #[.string ⟨#[107]⟩, v] W fun e w' => e = .returned (.string (ofL R0)) ∧ Ext W w' from fun W v h1 h2 => by
    rw [← hR0]; exact parts_any [107] (rootParts [97]) v W h1 (by decide) h2 (by decide))
  have cP1 := Kp.mk (show ∀ W v, Tab W → Rd W W.heap.size 1 v 2 ((nextParts ([98], [])).map Str) → Calls Tryd.prog 47 #[.string (ofL R0), v] W fun e w' => e = .returned (.string (ofL R1)) ∧ Ext W w' from fun W v h1 h2 => by
    rw [← hR1]; exact parts_any R0 (nextParts ([98], [])) v W h1 (by omega) h2 (by decide))
  have cP2 := Kp.mk (show ∀ W v, Tab W → Rd W W.heap.size 1 v 1 (sealParts.map Str) → Calls Tryd.prog 47 #[.string ⟨#[107]⟩, v] W fun e w' => e = .returned (.string (ofL S0)) ∧ Ext W w' from fun W v h1 h2 => by
    rw [← hS0]; exact parts_any [107] sealParts v W h1 (by decide) h2 (by decide))
  have cS := Kp.mk (show ∀ W, Tab W → Calls Tryd.prog 32 #[.string ⟨#[107]⟩] W fun e w' => e = .returned (.string (ofL S0)) ∧ Ext W w' from fun W h1 => by rw [← hS0]; exact seal_any [107] W h1 (by decide))
  obtain ⟨W0, hW0⟩ : ∃ W0, (w.alloc (.cells #[.string ⟨#[98]⟩, .string ⟨#[]⟩] 41)).alloc (.cells #[.string ⟨#[97]⟩, .slice (some ⟨w.heap.size, 0, none⟩) 1 1, .string ⟨#[]⟩] 31) = W0 := ⟨_, rfl⟩
  have E0 : Ext w W0 := by rw [← hW0]; exact ((Ext.rfl' w).al _).al _
  have A0 : Arr W0 (w.heap.size + 1) 31 [.string ⟨#[97]⟩, .slice (some ⟨w.heap.size, 0, none⟩) 1 1, .string ⟨#[]⟩] := by
    rw [← hW0]
    have h := Arr.new (w.alloc (.cells #[.string ⟨#[98]⟩, .string ⟨#[]⟩] 41)) 31 [.string ⟨#[97]⟩, .slice (some ⟨w.heap.size, 0, none⟩) 1 1, .string ⟨#[]⟩]
    rw [World.size_alloc] at h
    exact h
  have L0 : RdLinks W0 W0.heap.size (.slice (some ⟨w.heap.size, 0, none⟩) 1 1) [([98], [])] := by
    have h := Rd.own (World.ownsRow_lit (base := 0) (size := 2) (e := 41) w #[.string ⟨#[98]⟩, .string ⟨#[]⟩] 1 (Nat.zero_le _) (by decide) rfl) (by decide)
    have h2 : Ext (w.alloc (.cells #[.string ⟨#[98]⟩, .string ⟨#[]⟩] 41)) W0 := by rw [← hW0]; exact (Ext.rfl' _).al _
    exact rd_at h h2
  have hTW := hT.ext E0
  clear hR0 hR1 hS0 hlast htags l0
  have HW0 := Kp.mk hW0
  clear hW0
  go_enter Tryd.func18, Tryd.ntmps18
  go_wp2_with fail
  rw [HW0.out]
  refine (cT.out _ _ hTW L0).mono ?_
  rintro e w1 ⟨v1, rfl, own1, E1⟩
  obtain ⟨gt, ct, rfl⟩ := ownsRow_succ own1
  have hgt := (own1.lt gt rfl).2
  have TC := Kp.mk (show ∀ W, Ext w1 W → W.cell? ⟨gt, 0, none⟩ = some (.string (ofL R0)) ∧ W.cell? ⟨gt, 1, none⟩ = some (.string (ofL R1)) from fun W hW =>
    ⟨((bcell hW).1 gt 0 hgt).trans (own1.cellAt 0 (by decide)), ((bcell hW).1 gt 1 hgt).trans (own1.cellAt 1 (by decide))⟩)
  have F1 := E0.tr E1
  have A1 := A0.ext E1 A0.lt
  have L1 := rd_at L0 E1
  clear own1 cT A0 L0 hTW HW0 E0
  go_upto_region 3 with fail
  refine wp_region_locals (fun i v W => match i with
    | 0 => v = .slice (some ⟨gt, 0, none⟩) 2 ct
    | 1 => v = .int .i64 2
    | 2 => v = .bool true
    | 3 => v = .bool true
    | 4 => v = .slice (some ⟨gt, 0, none⟩) 2 ct
    | 5 => v = .pointer (some ⟨gt, 0, none⟩)
    | 6 => v = .string (ofL R0)
    | 7 => Rd W W.heap.size 1 v 2 ((rootParts [97]).map Str)
    | 8 => v = .string (ofL R0)
    | 9 => v = .bool true
    | 10 => v = .bool true
    | 11 => v = .bool true
    | 12 => v = .slice (some ⟨gt, 0, none⟩) 2 ct
    | 13 => v = .pointer (some ⟨gt, 1, none⟩)
    | 14 => v = .string (ofL R1)
    | 15 => v = .slice (some ⟨gt, 0, none⟩) 2 ct
    | 16 => v = .pointer (some ⟨gt, 0, none⟩)
    | 17 => v = .string (ofL R0)
    | 18 => Rd W W.heap.size 1 v 2 ((nextParts ([98], [])).map Str)
    | 19 => v = .string (ofL R1)
    | 20 => v = .bool true
    | 21 => v = .bool true
    | 22 => v = .bool true
    | 23 => v = .agg #[.string ⟨#[97]⟩, .slice (some ⟨w.heap.size, 0, none⟩) 1 1, .string ⟨#[]⟩]
    | 24 => v = .string (ofL R1)
    | 25 => v = .slice (some ⟨gt, 0, none⟩) 2 ct
    | 26 => v = .pointer (some ⟨gt, 1, none⟩)
    | 27 => v = .string (ofL R1)
    | 28 => v = .bool true
    | 29 => v = .bool true
    | 30 => v = .bool true
    | 31 => v = .string (ofL S0)
    | 32 => Rd W W.heap.size 1 v 1 (sealParts.map Str)
    | 33 => v = .string (ofL S0)
    | 34 => v = .bool true
    | 35 => v = .bool true
    | 36 => v = .bool true
    | _ => True) (by kernel_rfl) (by kernel_rfl) (by kernel_rfl) ?_ ?_ ?_
  · intro i v W1 W2 e1 e2 h
    match i, h with
    | 0, h => exact h
    | 1, h => exact h
    | 2, h => exact h
    | 3, h => exact h
    | 4, h => exact h
    | 5, h => exact h
    | 6, h => exact h
    | 7, h => exact rd_at h e2
    | 8, h => exact h
    | 9, h => exact h
    | 10, h => exact h
    | 11, h => exact h
    | 12, h => exact h
    | 13, h => exact h
    | 14, h => exact h
    | 15, h => exact h
    | 16, h => exact h
    | 17, h => exact h
    | 18, h => exact rd_at h e2
    | 19, h => exact h
    | 20, h => exact h
    | 21, h => exact h
    | 22, h => exact h
    | 23, h => exact h
    | 24, h => exact h
    | 25, h => exact h
    | 26, h => exact h
    | 27, h => exact h
    | 28, h => exact h
    | 29, h => exact h
    | 30, h => exact h
    | 31, h => exact h
    | 32, h => exact rd_at h e2
    | 33, h => exact h
    | 34, h => exact h
    | 35, h => exact h
    | 36, h => exact h
    | (i + 37), h => exact h
  · refine locals_cons (fun u W hW hd => leaves_val rfl (v := .slice (some ⟨gt, 0, none⟩) 2 ct) (by go_simp) rfl) ?_
    refine locals_cons (fun u W hW hd => ?_) ?_
    · have h0 : u 0 = _ := hd 0 (by kernel_rfl)
      exact leaves_val rfl (v := .int .i64 2) (by go_simp) rfl
    refine locals_cons (fun u W hW hd => ?_) ?_
    · have h1 : u 1 = _ := hd 1 (by kernel_rfl)
      exact leaves_val rfl (v := .bool true) (by go_simp) rfl
    refine locals_cons (fun u W hW hd => ?_) ?_
    · have h2 : u 2 = _ := hd 2 (by kernel_rfl)
      exact leaves_val rfl (v := .bool true) (by go_simp) rfl
    refine locals_cons (fun u W hW hd => ?_) ?_
    · have h3 : u 3 = _ := hd 3 (by kernel_rfl)
      exact leaves_val (by simp [Region.wanted, yielded, go_sem, h3]) (v := .slice (some ⟨gt, 0, none⟩) 2 ct) (by go_simp) rfl
    refine locals_cons (fun u W hW hd => ?_) ?_
    · have h3 : u 3 = _ := hd 3 (by kernel_rfl)
      have h4 : u 4 = _ := hd 4 (by kernel_rfl)
      exact leaves_val (by simp [Region.wanted, yielded, go_sem, h3]) (v := .pointer (some ⟨gt, 0, none⟩)) (by go_simp) rfl
    refine locals_cons (fun u W hW hd => ?_) ?_
    · have h3 : u 3 = _ := hd 3 (by kernel_rfl)
      have h5 : u 5 = _ := hd 5 (by kernel_rfl)
      have hc := (TC.out W hW).1
      exact leaves_val (by simp [Region.wanted, yielded, go_sem, h3]) (v := .string (ofL R0)) (by go_simp) rfl
    refine locals_cons (fun u W hW hd => ?_) ?_
    · have h3 : u 3 = _ := hd 3 (by kernel_rfl)
      exact leaves_new (by simp [Region.wanted, yielded, go_sem, h3]) (v := .slice (some ⟨W.heap.size, 0, none⟩) 2 2) (by go_simp) ((Ext.rfl' W).al _) (rd_lit W 9 #[.string ⟨#[114, 111, 111, 116]⟩, .string ⟨#[97]⟩] 2 rfl (by decide))
    refine locals_cons (fun u W hW hd => ?_) ?_
    · have h3 : u 3 = _ := hd 3 (by kernel_rfl)
      have h7 := hd 7 (by kernel_rfl)
      exact leaves_call (by simp [Region.wanted, yielded, go_sem, h3]) (f := 47) (args := #[.string ⟨#[107]⟩, u 7]) (by go_simp) ((cP0.out W _ (hT.ext (F1.tr hW)) h7).mono (by rintro e9 W9 ⟨rfl, h9⟩; exact ⟨_, rfl, h9, rfl⟩))
    refine locals_cons (fun u W hW hd => ?_) ?_
    · have h3 : u 3 = _ := hd 3 (by kernel_rfl)
      have h6 : u 6 = _ := hd 6 (by kernel_rfl)
      have h8 : u 8 = _ := hd 8 (by kernel_rfl)
      exact leaves_val (by simp [Region.wanted, yielded, go_sem, h3]) (v := .bool true) (by go_simp) rfl
    refine locals_cons (fun u W hW hd => ?_) ?_
    · have h3 : u 3 = _ := hd 3 (by kernel_rfl)
      have h9 : u 9 = _ := hd 9 (by kernel_rfl)
      exact leaves_val rfl (v := .bool true) (by go_simp) rfl
    refine locals_cons (fun u W hW hd => ?_) ?_
    · have h10 : u 10 = _ := hd 10 (by kernel_rfl)
      exact leaves_val rfl (v := .bool true) (by go_simp) rfl
    refine locals_cons (fun u W hW hd => ?_) ?_
    · have h11 : u 11 = _ := hd 11 (by kernel_rfl)
      exact leaves_val (by simp [Region.wanted, yielded, go_sem, h11]) (v := .slice (some ⟨gt, 0, none⟩) 2 ct) (by go_simp) rfl
    refine locals_cons (fun u W hW hd => ?_) ?_
    · have h11 : u 11 = _ := hd 11 (by kernel_rfl)
      have h12 : u 12 = _ := hd 12 (by kernel_rfl)
      exact leaves_val (by simp [Region.wanted, yielded, go_sem, h11]) (v := .pointer (some ⟨gt, 1, none⟩)) (by go_simp) rfl
    refine locals_cons (fun u W hW hd => ?_) ?_
    · have h11 : u 11 = _ := hd 11 (by kernel_rfl)
      have h13 : u 13 = _ := hd 13 (by kernel_rfl)
      have hc := (TC.out W hW).2
      exact leaves_val (by simp [Region.wanted, yielded, go_sem, h11]) (v := .string (ofL R1)) (by go_simp) rfl
    refine locals_cons (fun u W hW hd => ?_) ?_
    · have h11 : u 11 = _ := hd 11 (by kernel_rfl)
      exact leaves_val (by simp [Region.wanted, yielded, go_sem, h11]) (v := .slice (some ⟨gt, 0, none⟩) 2 ct) (by go_simp) rfl
    refine locals_cons (fun u W hW hd => ?_) ?_
    · have h11 : u 11 = _ := hd 11 (by kernel_rfl)
      have h15 : u 15 = _ := hd 15 (by kernel_rfl)
      exact leaves_val (by simp [Region.wanted, yielded, go_sem, h11]) (v := .pointer (some ⟨gt, 0, none⟩)) (by go_simp) rfl
    refine locals_cons (fun u W hW hd => ?_) ?_
    · have h11 : u 11 = _ := hd 11 (by kernel_rfl)
      have h16 : u 16 = _ := hd 16 (by kernel_rfl)
      have hc := (TC.out W hW).1
      exact leaves_val (by simp [Region.wanted, yielded, go_sem, h11]) (v := .string (ofL R0)) (by go_simp) rfl
    refine locals_cons (fun u W hW hd => ?_) ?_
    · have h11 : u 11 = _ := hd 11 (by kernel_rfl)
      exact leaves_new (by simp [Region.wanted, yielded, go_sem, h11]) (v := .slice (some ⟨W.heap.size, 0, none⟩) 2 2) (by go_simp) ((Ext.rfl' W).al _) (rd_lit W 9 #[.string ⟨#[102, 105, 114, 115, 116]⟩, .string ⟨#[98]⟩] 2 rfl (by decide))
    refine locals_cons (fun u W hW hd => ?_) ?_
    · have h11 : u 11 = _ := hd 11 (by kernel_rfl)
      have h17 : u 17 = _ := hd 17 (by kernel_rfl)
      have h18 := hd 18 (by kernel_rfl)
      exact leaves_call (by simp [Region.wanted, yielded, go_sem, h11]) (f := 47) (args := #[.string (ofL R0), u 18]) (by go_simp) ((cP1.out W _ (hT.ext (F1.tr hW)) h18).mono (by rintro e9 W9 ⟨rfl, h9⟩; exact ⟨_, rfl, h9, rfl⟩))
    refine locals_cons (fun u W hW hd => ?_) ?_
    · have h11 : u 11 = _ := hd 11 (by kernel_rfl)
      have h14 : u 14 = _ := hd 14 (by kernel_rfl)
      have h19 : u 19 = _ := hd 19 (by kernel_rfl)
      exact leaves_val (by simp [Region.wanted, yielded, go_sem, h11]) (v := .bool true) (by go_simp) rfl
    refine locals_cons (fun u W hW hd => ?_) ?_
    · have h11 : u 11 = _ := hd 11 (by kernel_rfl)
      have h20 : u 20 = _ := hd 20 (by kernel_rfl)
      exact leaves_val rfl (v := .bool true) (by go_simp) rfl
    refine locals_cons (fun u W hW hd => ?_) ?_
    · have h21 : u 21 = _ := hd 21 (by kernel_rfl)
      exact leaves_val rfl (v := .bool true) (by go_simp) rfl
    refine locals_cons (fun u W hW hd => ?_) ?_
    · have h22 : u 22 = _ := hd 22 (by kernel_rfl)
      have hA := A1.ext hW A1.lt
      have q0 := hA.cell 0; have q1 := hA.cell 1; have q2 := hA.cell 2
      simp only [List.getElem?_cons_zero, List.getElem?_cons_succ] at q0 q1 q2
      exact leaves_val (by simp [Region.wanted, yielded, go_sem, h22]) (v := .agg #[.string ⟨#[97]⟩, .slice (some ⟨w.heap.size, 0, none⟩) 1 1, .string ⟨#[]⟩]) (by go_simp) rfl
    refine locals_cons (fun u W hW hd => ?_) ?_
    · have h22 : u 22 = _ := hd 22 (by kernel_rfl)
      have h23 : u 23 = _ := hd 23 (by kernel_rfl)
      exact leaves_call (by simp [Region.wanted, yielded, go_sem, h22]) (f := 22) (args := #[.string ⟨#[107]⟩, .agg #[.string ⟨#[97]⟩, .slice (some ⟨w.heap.size, 0, none⟩) 1 1, .string ⟨#[]⟩]]) (by go_simp) ((cL.out W _ (hT.ext (F1.tr hW)) (rd_at L1 hW)).mono (by rintro e9 W9 ⟨rfl, h9⟩; exact ⟨_, rfl, h9, rfl⟩))
    refine locals_cons (fun u W hW hd => ?_) ?_
    · have h22 : u 22 = _ := hd 22 (by kernel_rfl)
      exact leaves_val (by simp [Region.wanted, yielded, go_sem, h22]) (v := .slice (some ⟨gt, 0, none⟩) 2 ct) (by go_simp) rfl
    refine locals_cons (fun u W hW hd => ?_) ?_
    · have h22 : u 22 = _ := hd 22 (by kernel_rfl)
      have h25 : u 25 = _ := hd 25 (by kernel_rfl)
      exact leaves_val (by simp [Region.wanted, yielded, go_sem, h22]) (v := .pointer (some ⟨gt, 1, none⟩)) (by go_simp) rfl
    refine locals_cons (fun u W hW hd => ?_) ?_
    · have h22 : u 22 = _ := hd 22 (by kernel_rfl)
      have h26 : u 26 = _ := hd 26 (by kernel_rfl)
      have hc := (TC.out W hW).2
      exact leaves_val (by simp [Region.wanted, yielded, go_sem, h22]) (v := .string (ofL R1)) (by go_simp) rfl
    refine locals_cons (fun u W hW hd => ?_) ?_
    · have h22 : u 22 = _ := hd 22 (by kernel_rfl)
      have h24 : u 24 = _ := hd 24 (by kernel_rfl)
      have h27 : u 27 = _ := hd 27 (by kernel_rfl)
      exact leaves_val (by simp [Region.wanted, yielded, go_sem, h22]) (v := .bool true) (by go_simp) rfl
    refine locals_cons (fun u W hW hd => ?_) ?_
    · have h22 : u 22 = _ := hd 22 (by kernel_rfl)
      have h28 : u 28 = _ := hd 28 (by kernel_rfl)
      exact leaves_val rfl (v := .bool true) (by go_simp) rfl
    refine locals_cons (fun u W hW hd => ?_) ?_
    · have h29 : u 29 = _ := hd 29 (by kernel_rfl)
      exact leaves_val rfl (v := .bool true) (by go_simp) rfl
    refine locals_cons (fun u W hW hd => ?_) ?_
    · have h30 : u 30 = _ := hd 30 (by kernel_rfl)
      exact leaves_call (by simp [Region.wanted, yielded, go_sem, h30]) (f := 32) (args := #[.string ⟨#[107]⟩]) (by go_simp) ((cS.out W (hT.ext (F1.tr hW))).mono (by rintro e9 W9 ⟨rfl, h9⟩; exact ⟨_, rfl, h9, rfl⟩))
    refine locals_cons (fun u W hW hd => ?_) ?_
    · have h30 : u 30 = _ := hd 30 (by kernel_rfl)
      exact leaves_new (by simp [Region.wanted, yielded, go_sem, h30]) (v := .slice (some ⟨W.heap.size, 0, none⟩) 1 1) (by go_simp) ((Ext.rfl' W).al _) (rd_lit W 9 #[.string ⟨#[115, 101, 97, 108]⟩] 1 rfl (by decide))
    refine locals_cons (fun u W hW hd => ?_) ?_
    · have h30 : u 30 = _ := hd 30 (by kernel_rfl)
      have h32 := hd 32 (by kernel_rfl)
      exact leaves_call (by simp [Region.wanted, yielded, go_sem, h30]) (f := 47) (args := #[.string ⟨#[107]⟩, u 32]) (by go_simp) ((cP2.out W _ (hT.ext (F1.tr hW)) h32).mono (by rintro e9 W9 ⟨rfl, h9⟩; exact ⟨_, rfl, h9, rfl⟩))
    refine locals_cons (fun u W hW hd => ?_) ?_
    · have h30 : u 30 = _ := hd 30 (by kernel_rfl)
      have h31 : u 31 = _ := hd 31 (by kernel_rfl)
      have h33 : u 33 = _ := hd 33 (by kernel_rfl)
      exact leaves_val (by simp [Region.wanted, yielded, go_sem, h30]) (v := .bool true) (by go_simp) rfl
    refine locals_cons (fun u W hW hd => ?_) ?_
    · have h30 : u 30 = _ := hd 30 (by kernel_rfl)
      have h34 : u 34 = _ := hd 34 (by kernel_rfl)
      exact leaves_val rfl (v := .bool true) (by go_simp) rfl
    refine locals_cons (fun u W hW hd => ?_) locals_nil
    · have h35 : u 35 = _ := hd 35 (by kernel_rfl)
      exact leaves_val rfl (v := .bool true) (by go_simp) rfl
  · intro u W hW hV
    have h36 : u 36 = .bool true := hV 36 (by decide)
    clear hV
    go_wp2
    exact bodyPost_ret (v := .bool true) (by simp [results, Tryd.results18, go_sem, h36]) rfl ⟨rfl, F1.tr hW⟩
end Go.Proofs.YteffocenfkcofaaDoor
