/-
  Chapter 34's laws: ChainTags returns true. Condition: the package's table holds the constants.
-/
import Derived.Test.YteffocenfkcofaaDoorCh9
namespace Go.Proofs.YteffocenfkcofaaDoor
open Go.RowKit

theorem small_short {id tag : List UInt8} {l : List LinkL} (h : Small id tag l) : Short1 l := fun x hx => by have := h.2.2.2.1 x hx; omega
theorem same_len (xs : List (List UInt8)) (n : Nat) (hn : xs.length = n) (va vb : Value) (w : World) (ha : Rd w w.heap.size 1 va n (xs.map Str)) (hb : Rd w w.heap.size 1 vb n (xs.map Str)) :
    Calls Tryd.prog 20 #[va, vb] w fun e w' => e = .returned (.bool true) ∧ Ext w w' := by
  subst hn
  have h := sameTexts_any xs xs va vb w ha hb
  rw [decide_eq_true (rfl : xs = xs)] at h
  exact h

set_option maxRecDepth 100000 in
set_option maxHeartbeats 4000000 in
theorem chainTags_walk (k id tag : List UInt8) (vl : Value) (l : List LinkL) (w : World) (hT : Tab w) (hl : RdLinks w w.heap.size vl l) :
    Calls Tryd.prog 4 #[.string (ofL k), tokV id vl tag] w fun e w' => e = .returned (.bool true) ∧ Ext w w' := by
  have cW := Kp.mk chworks_any
  have zk : (ofL k).size = k.length := size_ofL _
  have E0 : Ext w (w.alloc (.cells #[.string (ofL id), vl, .string (ofL tag)] 31)) := (Ext.rfl' w).al _
  have HL := Kp.mk (rd_at hl E0)
  have A0 := Arr.new w 31 [.string (ofL id), vl, .string (ofL tag)]
  rw [show ([.string (ofL id), vl, .string (ofL tag)] : List Value).toArray = #[.string (ofL id), vl, .string (ofL tag)] from rfl] at A0
  have cG := Kp.mk (great34_any id tag vl l _ HL.out)
  obtain ⟨A, c, rfl, hlm, _⟩ := hl.cells
  clear hl
  unfold tokV at *
  by_cases g1 : 200 < k.length
  · have F1 := E0
    go_enter Tryd.func4, Tryd.ntmps4
    go_wp2_with fail
    refine (cW.out _ (hT.ext F1)).mono ?_
    rintro e w2 ⟨rfl, E2⟩
    go_wp2
    go_ret
    exact ⟨rfl, F1.tr E2⟩
  · go_enter Tryd.func4, Tryd.ntmps4
    go_wp2_with fail
    refine cG.out.mono ?_
    rintro e w1 ⟨b, rfl, hb, E1⟩
    have F1 := E0.tr E1
    cases b with
    | true => 
      go_wp2_with fail
      refine (cW.out _ (hT.ext F1)).mono ?_
      rintro e w2 ⟨rfl, E2⟩
      go_wp2
      go_ret
      exact ⟨rfl, F1.tr E2⟩
    | false =>
      obtain ⟨hsm, hl10⟩ := hb rfl
      have hsh := small_short hsm
      obtain ⟨h4200, _, _, _, _⟩ := hsm
      have A1 := A0.ext E1 A0.lt
      have L1 := rd_at HL.out E1
      obtain ⟨TL, hTL⟩ : ∃ TL, tagsL k id l = TL := ⟨_, rfl⟩
      obtain ⟨X, hX⟩ : ∃ X, lastL k id l = X := ⟨_, rfl⟩
      have hlen := Kp.mk (show TL.length = l.length + 1 by rw [← hTL, length_tagsL])
      have hget := Kp.mk (show TL[l.length]? = some X by rw [← hTL, tagsL_get k id l l.length (Nat.le_refl _), List.take_length, hX])
      have cT := Kp.mk (show ∀ W, Tab W → RdLinks W W.heap.size (.slice A l.length c) l → Calls Tryd.prog 19 #[.string (ofL k), .agg #[.string (ofL id), .slice A l.length c, .string (ofL tag)]] W (RetOwn W 9 1 (l.length + 1) (TL.map Str)) from fun W h1 h2 => by rw [← hTL]; exact tags_any k id tag _ l W h1 (by omega) (by omega) h2 hsh (by omega))
      have cR := Kp.mk (show ∀ W, RdLinks W W.heap.size (.slice A l.length c) l → Calls Tryd.prog 21 #[.string (ofL k), .agg #[.string (ofL id), .slice A l.length c, .string (ofL tag)]] W fun e w' => ∃ v, e = .returned v ∧ Ext W w' ∧ Rd w' w'.heap.size 1 v (l.length + 1) (TL.map Str) from fun W h2 => by rw [← hTL]; exact (rtags_any k id tag _ l W (by omega) (by omega) h2 hsh (by omega)).mono fun _ _ h => rd_parts h)
      have cL := Kp.mk (show ∀ W, Tab W → RdLinks W W.heap.size (.slice A l.length c) l → Calls Tryd.prog 22 #[.string (ofL k), .agg #[.string (ofL id), .slice A l.length c, .string (ofL tag)]] W fun e w' => e = .returned (.string (ofL X)) ∧ Ext W w' from fun W h1 h2 => by rw [← hX]; exact last_any k id tag _ l W h1 (by omega) (by omega) h2 hsh (by omega))
      have cS := Kp.mk (fun (va vb : Value) (W : World) h1 h2 => same_len TL (l.length + 1) hlen.out va vb W h1 h2)
      clear hTL hX hsh E1 E0 A0 HL cG
      have q0 := A1.cell 0; have q1 := A1.cell 1; have q2 := A1.cell 2
      simp only [List.getElem?_cons_zero, List.getElem?_cons_succ] at q0 q1 q2
      go_wp2_with fail
      refine (cT.out _ (hT.ext F1) L1).mono ?_
      rintro e w2 ⟨v2, rfl, own2, E2⟩
      obtain ⟨gt, ct, rfl⟩ := ownsRow_succ own2
      have R2 := Kp.mk (Rd.own own2 (by decide))
      have hgt := (own2.lt gt rfl).2
      have TC := Kp.mk (show ∀ W, Ext w2 W → W.cell? ⟨gt, l.length, none⟩ = some (.string (ofL X)) from fun W hW => by
        rw [(bcell hW).1 gt _ hgt, own2.cellAt l.length (by omega), List.getElem?_map, hget.out]; rfl)
      have F2 := F1.tr E2
      have A2 := A1.ext E2 A1.lt
      have L2 := Kp.mk (rd_at L1 E2)
      have w2f : (l.length : Int) + 1 - 1 = l.length := by omega
      have w1f : IntKind.i64.wrap (l.length : Int) = l.length := IntWalk.i64_in _ (by omega)
      have w3f : IntKind.i64.wrap ((l.length : Int) + 1) = (l.length : Int) + 1 := IntWalk.i64_in _ (by omega)
      clear own2 E2 F1 A1 L1 cT q0 q1 q2 hget hlen
      go_upto_region 4 with fail
      refine wp_region_locals (fun i v W => match i with
        | 0 => v = .slice (some ⟨gt, 0, none⟩) (l.length + 1) ct
        | 1 => v = .string (ofL k)
        | 2 => v = .agg #[.string (ofL id), .slice A l.length c, .string (ofL tag)]
        | 3 => Rd W W.heap.size 1 v (l.length + 1) (TL.map Str)
        | 4 => v = .bool true
        | 5 => v = .bool true
        | 6 => v = .slice (some ⟨gt, 0, none⟩) (l.length + 1) ct
        | 7 => v = .int .i64 ((l.length : Int) + 1)
        | 8 => v = .pointer (some ⟨w.heap.size, 1, none⟩)
        | 9 => v = .slice A l.length c
        | 10 => v = .int .i64 l.length
        | 11 => v = .int .i64 ((l.length : Int) + 1)
        | 12 => v = .bool true
        | 13 => v = .bool true
        | 14 => v = .bool true
        | 15 => v = .string (ofL k)
        | 16 => v = .agg #[.string (ofL id), .slice A l.length c, .string (ofL tag)]
        | 17 => v = .string (ofL X)
        | 18 => v = .slice (some ⟨gt, 0, none⟩) (l.length + 1) ct
        | 19 => v = .slice (some ⟨gt, 0, none⟩) (l.length + 1) ct
        | 20 => v = .int .i64 ((l.length : Int) + 1)
        | 21 => v = .int .i64 l.length
        | 22 => v = .pointer (some ⟨gt, l.length, none⟩)
        | 23 => v = .string (ofL X)
        | 24 => v = .bool true
        | 25 => v = .bool true
        | 26 => v = .bool true
        | 27 => v = .bool true
        | 28 => v = .bool true
        | 29 => v = .bool true
        | _ => True) (by kernel_rfl) (by kernel_rfl) (by kernel_rfl) ?_ ?_ ?_
      · intro i v W1 W2 e1 e2 h
        match i, h with
        | 0, h => exact h
        | 1, h => exact h
        | 2, h => exact h
        | 3, h => exact rd_at h e2
        | 4, h => exact h
        | 5, h => exact h
        | 6, h => exact h
        | 7, h => exact h
        | 8, h => exact h
        | 9, h => exact h
        | 10, h => exact h
        | 11, h => exact h
        | 12, h => exact h
        | 13, h => exact h
        | 14, h => exact h
        | 15, h => exact h
        | 16, h => exact h
        | 17, h => exact h
        | 18, h => exact h
        | 19, h => exact h
        | 20, h => exact h
        | 21, h => exact h
        | 22, h => exact h
        | 23, h => exact h
        | 24, h => exact h
        | 25, h => exact h
        | 26, h => exact h
        | 27, h => exact h
        | 28, h => exact h
        | 29, h => exact h
        | (i + 30), h => exact h
      · refine locals_cons (fun u W hW hd => leaves_val rfl (v := .slice (some ⟨gt, 0, none⟩) (l.length + 1) ct) (by go_simp) rfl) ?_
        refine locals_cons (fun u W hW hd => leaves_val rfl (v := .string (ofL k)) (by go_simp) rfl) ?_
        refine locals_cons (fun u W hW hd => ?_) ?_
        · have hA := A2.ext hW A2.lt
          have q0 := hA.cell 0; have q1 := hA.cell 1; have q2 := hA.cell 2
          simp only [List.getElem?_cons_zero, List.getElem?_cons_succ] at q0 q1 q2
          exact leaves_val rfl (v := .agg #[.string (ofL id), .slice A l.length c, .string (ofL tag)]) (by go_simp) rfl
        refine locals_cons (fun u W hW hd => ?_) ?_
        · have h1 : u 1 = _ := hd 1 (by kernel_rfl)
          have h2 : u 2 = _ := hd 2 (by kernel_rfl)
          exact leaves_call rfl (f := 21) (args := #[.string (ofL k), .agg #[.string (ofL id), .slice A l.length c, .string (ofL tag)]]) (by go_simp) (cR.out W (rd_at L2.out hW))
        refine locals_cons (fun u W hW hd => ?_) ?_
        · have h0 : u 0 = _ := hd 0 (by kernel_rfl)
          have h3 := hd 3 (by kernel_rfl)
          exact leaves_call rfl (f := 20) (args := #[.slice (some ⟨gt, 0, none⟩) (l.length + 1) ct, u 3]) (by go_simp) ((cS.out _ _ W (rd_at R2.out hW) h3).mono (by rintro e9 W9 ⟨rfl, h9⟩; exact ⟨_, rfl, h9, rfl⟩))
        refine locals_cons (fun u W hW hd => ?_) ?_
        · have h4 : u 4 = _ := hd 4 (by kernel_rfl)
          exact leaves_val rfl (v := .bool true) (by go_simp) rfl
        refine locals_cons (fun u W hW hd => ?_) ?_
        · have h5 : u 5 = _ := hd 5 (by kernel_rfl)
          exact leaves_val (by simp [Region.wanted, yielded, go_sem, h5]) (v := .slice (some ⟨gt, 0, none⟩) (l.length + 1) ct) (by go_simp) rfl
        refine locals_cons (fun u W hW hd => ?_) ?_
        · have h5 : u 5 = _ := hd 5 (by kernel_rfl)
          have h6 : u 6 = _ := hd 6 (by kernel_rfl)
          exact leaves_val (by simp [Region.wanted, yielded, go_sem, h5]) (v := .int .i64 ((l.length : Int) + 1)) (by go_simp) rfl
        refine locals_cons (fun u W hW hd => ?_) ?_
        · have h5 : u 5 = _ := hd 5 (by kernel_rfl)
          exact leaves_val (by simp [Region.wanted, yielded, go_sem, h5]) (v := .pointer (some ⟨w.heap.size, 1, none⟩)) (by go_simp) rfl
        refine locals_cons (fun u W hW hd => ?_) ?_
        · have h5 : u 5 = _ := hd 5 (by kernel_rfl)
          have h8 : u 8 = _ := hd 8 (by kernel_rfl)
          have hA := A2.ext hW A2.lt
          have q1 := hA.cell 1
          simp only [List.getElem?_cons_zero, List.getElem?_cons_succ] at q1
          exact leaves_val (by simp [Region.wanted, yielded, go_sem, h5]) (v := .slice A l.length c) (by go_simp) rfl
        refine locals_cons (fun u W hW hd => ?_) ?_
        · have h5 : u 5 = _ := hd 5 (by kernel_rfl)
          have h9 : u 9 = _ := hd 9 (by kernel_rfl)
          exact leaves_val (by simp [Region.wanted, yielded, go_sem, h5]) (v := .int .i64 l.length) (by go_simp) rfl
        refine locals_cons (fun u W hW hd => ?_) ?_
        · have h5 : u 5 = _ := hd 5 (by kernel_rfl)
          have h10 : u 10 = _ := hd 10 (by kernel_rfl)
          exact leaves_val (by simp [Region.wanted, yielded, go_sem, h5]) (v := .int .i64 ((l.length : Int) + 1)) (by go_simp) rfl
        refine locals_cons (fun u W hW hd => ?_) ?_
        · have h5 : u 5 = _ := hd 5 (by kernel_rfl)
          have h7 : u 7 = _ := hd 7 (by kernel_rfl)
          have h11 : u 11 = _ := hd 11 (by kernel_rfl)
          exact leaves_val (by simp [Region.wanted, yielded, go_sem, h5]) (v := .bool true) (by go_simp) rfl
        refine locals_cons (fun u W hW hd => ?_) ?_
        · have h5 : u 5 = _ := hd 5 (by kernel_rfl)
          have h12 : u 12 = _ := hd 12 (by kernel_rfl)
          exact leaves_val rfl (v := .bool true) (by go_simp) rfl
        refine locals_cons (fun u W hW hd => ?_) ?_
        · have h13 : u 13 = _ := hd 13 (by kernel_rfl)
          exact leaves_val rfl (v := .bool true) (by go_simp) rfl
        refine locals_cons (fun u W hW hd => ?_) ?_
        · have h14 : u 14 = _ := hd 14 (by kernel_rfl)
          exact leaves_val (by simp [Region.wanted, yielded, go_sem, h14]) (v := .string (ofL k)) (by go_simp) rfl
        refine locals_cons (fun u W hW hd => ?_) ?_
        · have h14 : u 14 = _ := hd 14 (by kernel_rfl)
          have hA := A2.ext hW A2.lt
          have q0 := hA.cell 0; have q1 := hA.cell 1; have q2 := hA.cell 2
          simp only [List.getElem?_cons_zero, List.getElem?_cons_succ] at q0 q1 q2
          exact leaves_val (by simp [Region.wanted, yielded, go_sem, h14]) (v := .agg #[.string (ofL id), .slice A l.length c, .string (ofL tag)]) (by go_simp) rfl
        refine locals_cons (fun u W hW hd => ?_) ?_
        · have h14 : u 14 = _ := hd 14 (by kernel_rfl)
          have h15 : u 15 = _ := hd 15 (by kernel_rfl)
          have h16 : u 16 = _ := hd 16 (by kernel_rfl)
          exact leaves_call (by simp [Region.wanted, yielded, go_sem, h14]) (f := 22) (args := #[.string (ofL k), .agg #[.string (ofL id), .slice A l.length c, .string (ofL tag)]]) (by go_simp) ((cL.out W (hT.ext (F2.tr hW)) (rd_at L2.out hW)).mono (by rintro e9 W9 ⟨rfl, h9⟩; exact ⟨_, rfl, h9, rfl⟩))
        refine locals_cons (fun u W hW hd => ?_) ?_
        · have h14 : u 14 = _ := hd 14 (by kernel_rfl)
          exact leaves_val (by simp [Region.wanted, yielded, go_sem, h14]) (v := .slice (some ⟨gt, 0, none⟩) (l.length + 1) ct) (by go_simp) rfl
        refine locals_cons (fun u W hW hd => ?_) ?_
        · have h14 : u 14 = _ := hd 14 (by kernel_rfl)
          exact leaves_val (by simp [Region.wanted, yielded, go_sem, h14]) (v := .slice (some ⟨gt, 0, none⟩) (l.length + 1) ct) (by go_simp) rfl
        refine locals_cons (fun u W hW hd => ?_) ?_
        · have h14 : u 14 = _ := hd 14 (by kernel_rfl)
          have h19 : u 19 = _ := hd 19 (by kernel_rfl)
          exact leaves_val (by simp [Region.wanted, yielded, go_sem, h14]) (v := .int .i64 ((l.length : Int) + 1)) (by go_simp) rfl
        refine locals_cons (fun u W hW hd => ?_) ?_
        · have h14 : u 14 = _ := hd 14 (by kernel_rfl)
          have h20 : u 20 = _ := hd 20 (by kernel_rfl)
          exact leaves_val (by simp [Region.wanted, yielded, go_sem, h14]) (v := .int .i64 l.length) (by go_simp) rfl
        refine locals_cons (fun u W hW hd => ?_) ?_
        · have h14 : u 14 = _ := hd 14 (by kernel_rfl)
          have h18 : u 18 = _ := hd 18 (by kernel_rfl)
          have h21 : u 21 = _ := hd 21 (by kernel_rfl)
          exact leaves_val (by simp [Region.wanted, yielded, go_sem, h14]) (v := .pointer (some ⟨gt, l.length, none⟩)) (by go_simp; omega) rfl
        refine locals_cons (fun u W hW hd => ?_) ?_
        · have h14 : u 14 = _ := hd 14 (by kernel_rfl)
          have h22 : u 22 = _ := hd 22 (by kernel_rfl)
          have hc := TC.out W hW
          exact leaves_val (by simp [Region.wanted, yielded, go_sem, h14]) (v := .string (ofL X)) (by go_simp) rfl
        refine locals_cons (fun u W hW hd => ?_) ?_
        · have h14 : u 14 = _ := hd 14 (by kernel_rfl)
          have h17 : u 17 = _ := hd 17 (by kernel_rfl)
          have h23 : u 23 = _ := hd 23 (by kernel_rfl)
          exact leaves_val (by simp [Region.wanted, yielded, go_sem, h14]) (v := .bool true) (by go_simp) rfl
        refine locals_cons (fun u W hW hd => ?_) ?_
        · have h14 : u 14 = _ := hd 14 (by kernel_rfl)
          have h24 : u 24 = _ := hd 24 (by kernel_rfl)
          exact leaves_val rfl (v := .bool true) (by go_simp) rfl
        refine locals_cons (fun u W hW hd => ?_) ?_
        · have h25 : u 25 = _ := hd 25 (by kernel_rfl)
          exact leaves_val rfl (v := .bool true) (by go_simp) rfl
        refine locals_cons (fun u W hW hd => ?_) ?_
        · have h26 : u 26 = _ := hd 26 (by kernel_rfl)
          exact leaves_call (by simp [Region.wanted, yielded, go_sem, h26]) (f := 18) (args := #[]) (by go_simp) ((cW.out W (hT.ext (F2.tr hW))).mono (by rintro e9 W9 ⟨rfl, h9⟩; exact ⟨_, rfl, h9, rfl⟩))
        refine locals_cons (fun u W hW hd => ?_) ?_
        · have h26 : u 26 = _ := hd 26 (by kernel_rfl)
          have h27 : u 27 = _ := hd 27 (by kernel_rfl)
          exact leaves_val rfl (v := .bool true) (by go_simp) rfl
        refine locals_cons (fun u W hW hd => ?_) locals_nil
        · have h28 : u 28 = _ := hd 28 (by kernel_rfl)
          exact leaves_val rfl (v := .bool true) (by go_simp) rfl
      · intro u W hW hV
        have h29 : u 29 = .bool true := hV 29 (by decide)
        clear hV
        go_wp2
        exact bodyPost_ret (v := .bool true) (by simp [results, Tryd.results4, go_sem, h29]) rfl ⟨rfl, F2.tr hW⟩
end Go.Proofs.YteffocenfkcofaaDoor
