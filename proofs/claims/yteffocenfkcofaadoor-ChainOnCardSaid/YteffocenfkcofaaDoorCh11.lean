/-
  Chapter 34's laws: ChainOn returns true. Condition: the package's table holds the constants.
-/
import Derived.Test.YteffocenfkcofaaDoorCh10
namespace Go.Proofs.YteffocenfkcofaaDoor
open Go.RowKit

theorem linkCells_take : ∀ (l : List LinkL) (k : Nat) (j : Nat) (u : Value), (linkCells (l.take k))[j]? = some u → (linkCells l)[j]? = some u
  | [], k, j, u, h => by simp [linkCells] at h
  | x :: l, 0, j, u, h => by simp [linkCells] at h
  | x :: l, k + 1, j, u, h => by
    rw [List.take_succ_cons, linkCells_cons] at h
    rw [linkCells_cons]
    match j, h with
    | 0, h => exact h
    | 1, h => exact h
    | j + 2, h =>
      simp only [List.getElem?_cons_succ] at h ⊢
      exact linkCells_take l k j u h
theorem rd_take {w : World} {B : Nat} {A : Option Addr} {n c : Nat} {l : List LinkL} (h : RdLinks w B (.slice A n c) l) (k : Nat) (hk : k ≤ l.length) : RdLinks w B (.slice A k c) (l.take k) := by
  obtain ⟨A', c', e, h1, h2, h3⟩ := h
  cases e
  have hl : (l.take k).length = k := by rw [List.length_take]; omega
  refine ⟨A, c, by rw [hl], by omega, length_linkCells _, fun h0 => ?_⟩
  obtain ⟨b, off, hA, hb, hc⟩ := h3 (by omega)
  exact ⟨b, off, hA, hb, fun j u hu => hc j u (linkCells_take l k j u hu)⟩

set_option maxRecDepth 100000 in
set_option maxHeartbeats 4000000 in
theorem chainOn_walk (k id tag : List UInt8) (A : Option Addr) (c : Nat) (l : List LinkL) (n : Nat) (w : World) (hT : Tab w) (hl : RdLinks w w.heap.size (.slice A l.length c) l) (hcap : l.length ≤ c) (hn : n < 256) :
    Calls Tryd.prog 6 #[.string (ofL k), tokV id (.slice A l.length c) tag, .int .u8 n] w fun e w' => e = .returned (.bool true) ∧ Ext w w' := by
  have cW := Kp.mk chworks_any
  have zk : (ofL k).size = k.length := size_ofL _
  have E0 : Ext w (w.alloc (.cells #[.string (ofL id), .slice A l.length c, .string (ofL tag)] 31)) := (Ext.rfl' w).al _
  have HL := Kp.mk (rd_at hl E0)
  have A0 := Arr.new w 31 [.string (ofL id), .slice A l.length c, .string (ofL tag)]
  rw [show ([.string (ofL id), .slice A l.length c, .string (ofL tag)] : List Value).toArray = #[.string (ofL id), .slice A l.length c, .string (ofL tag)] from rfl] at A0
  have cG := Kp.mk (great34_any id tag (.slice A l.length c) l _ HL.out)
  have hlm : l.length ≤ 9223372036854775807 := by obtain ⟨_, _, _, h, _⟩ := hl; exact h
  clear hl
  unfold tokV at *
  by_cases g1 : 200 < k.length
  · have F1 := E0
    go_enter Tryd.func6, Tryd.ntmps6
    go_wp2_with fail
    refine (cW.out _ (hT.ext F1)).mono ?_
    rintro e w2 ⟨rfl, E2⟩
    go_wp2
    go_ret
    exact ⟨rfl, F1.tr E2⟩
  · go_enter Tryd.func6, Tryd.ntmps6
    go_wp2_with fail
    refine cG.out.mono ?_
    rintro e w1 ⟨b, rfl, hb, E1⟩
    have F1 := E0.tr E1
    cases b with
    | true => 
      go_wp2_with fail
      refine (cW.out _ (hT.ext F1)).mono ?_
      rintro e w2 ⟨rfl, E2⟩
      go_wp2
      go_ret
      exact ⟨rfl, F1.tr E2⟩
    | false =>
      obtain ⟨hsm, hl10⟩ := hb rfl
      have hsh := small_short hsm
      have h4200 := hsm.1
      have A1 := A0.ext E1 A0.lt
      have L1 := rd_at HL.out E1
      obtain ⟨kk, hkk⟩ : ∃ kk, n % (l.length + 1) = kk := ⟨_, rfl⟩
      have hkl : kk ≤ l.length := by have := Nat.mod_lt n (show 0 < l.length + 1 by omega); omega
      have hrem : (n : Int) % ((l.length : Int) + 1) = kk := by rw [← hkk, Int.natCast_emod]; rfl
      have hnz : ((l.length : Int) + 1 == 0) = false := by simp; omega
      clear E1 E0 A0 HL cG hsm
      have q0 := A1.cell 0; have q1 := A1.cell 1; have q2 := A1.cell 2
      simp only [List.getElem?_cons_zero, List.getElem?_cons_succ] at q0 q1 q2
      obtain ⟨X0, hX0⟩ : ∃ X, lastL k id (l.take kk) = X := ⟨_, rfl⟩
      obtain ⟨X, hX⟩ : ∃ X, lastL k id l = X := ⟨_, rfl⟩
      have lX0 : X0.length = 32 := by rw [← hX0]; exact length_lastL _ _ _
      have hsh2 : Short1 (l.take kk) := fun x hx => hsh x (List.mem_of_mem_take hx)
      have c0 := Kp.mk (show ∀ W, Tab W → RdLinks W W.heap.size (.slice A kk c) (l.take kk) → Calls Tryd.prog 22 #[.string (ofL k), .agg #[.string (ofL id), .slice A kk c, .string ⟨#[]⟩]] W fun e w' => e = .returned (.string (ofL X0)) ∧ Ext W w' from fun W h1 h2 => by rw [← hX0]; exact last_any k id [] _ (l.take kk) W h1 (by omega) (by omega) h2 hsh2 (by rw [List.length_take]; omega))
      have cL := Kp.mk (show ∀ W, Tab W → RdLinks W W.heap.size (.slice A l.length c) l → Calls Tryd.prog 22 #[.string (ofL k), .agg #[.string (ofL id), .slice A l.length c, .string (ofL tag)]] W fun e w' => e = .returned (.string (ofL X)) ∧ Ext W w' from fun W h1 h2 => by rw [← hX]; exact last_any k id tag _ l W h1 (by omega) (by omega) h2 hsh (by omega))
      have HX0 := Kp.mk hX0; have HX := Kp.mk hX
      have HSH := Kp.mk hsh
      have LK := Kp.mk L1
      clear hX0 hX hsh hsh2 L1
      go_upto_region 4 with fail
      refine wp_region_locals (fun i v W => match i with
        | 0 => v = .string (ofL k)
        | 1 => v = .pointer (some ⟨w.heap.size, 0, none⟩)
        | 2 => v = .string (ofL id)
        | 3 => v = .pointer (some ⟨w.heap.size, 1, none⟩)
        | 4 => v = .slice A l.length c
        | 5 => v = .int .i64 kk
        | 6 => v = .slice A kk c
        | 7 => v = .agg #[.string (ofL id), .slice A kk c, .string ⟨#[]⟩]
        | 8 => v = .string (ofL X0)
        | 9 => v = .string (ofL X0)
        | _ => True) (by kernel_rfl) (by kernel_rfl) (by kernel_rfl) ?_ ?_ ?_
      · intro i v W1 W2 e1 e2 h
        match i, h with
        | 0, h => exact h
        | 1, h => exact h
        | 2, h => exact h
        | 3, h => exact h
        | 4, h => exact h
        | 5, h => exact h
        | 6, h => exact h
        | 7, h => exact h
        | 8, h => exact h
        | 9, h => exact h
        | (i + 10), h => exact h
      · refine locals_cons (fun u W hW hd => leaves_val rfl (v := .string (ofL k)) (by go_simp) rfl) ?_
        refine locals_cons (fun u W hW hd => leaves_val rfl (v := .pointer (some ⟨w.heap.size, 0, none⟩)) (by go_simp) rfl) ?_
        refine locals_cons (fun u W hW hd => ?_) ?_
        · have h1 : u 1 = _ := hd 1 (by kernel_rfl)
          have hA := A1.ext hW A1.lt
          have q0 := hA.cell 0
          simp only [List.getElem?_cons_zero] at q0
          exact leaves_val rfl (v := .string (ofL id)) (by go_simp) rfl
        refine locals_cons (fun u W hW hd => leaves_val rfl (v := .pointer (some ⟨w.heap.size, 1, none⟩)) (by go_simp) rfl) ?_
        refine locals_cons (fun u W hW hd => ?_) ?_
        · have h3 : u 3 = _ := hd 3 (by kernel_rfl)
          have hA := A1.ext hW A1.lt
          have q1 := hA.cell 1
          simp only [List.getElem?_cons_zero, List.getElem?_cons_succ] at q1
          exact leaves_val rfl (v := .slice A l.length c) (by go_simp) rfl
        refine locals_cons (fun u W hW hd => leaves_val rfl (v := .int .i64 kk) (by go_simp) rfl) ?_
        refine locals_cons (fun u W hW hd => ?_) ?_
        · have h4 : u 4 = _ := hd 4 (by kernel_rfl)
          have h5 : u 5 = _ := hd 5 (by kernel_rfl)
          exact leaves_val rfl (v := .slice A kk c) (by go_simp; omega) rfl
        refine locals_cons (fun u W hW hd => ?_) ?_
        · have h2 : u 2 = _ := hd 2 (by kernel_rfl)
          have h6 : u 6 = _ := hd 6 (by kernel_rfl)
          exact leaves_val rfl (v := .agg #[.string (ofL id), .slice A kk c, .string ⟨#[]⟩]) (by go_simp) rfl
        refine locals_cons (fun u W hW hd => ?_) ?_
        · have h0 : u 0 = _ := hd 0 (by kernel_rfl)
          have h7 : u 7 = _ := hd 7 (by kernel_rfl)
          exact leaves_call rfl (f := 22) (args := #[.string (ofL k), .agg #[.string (ofL id), .slice A kk c, .string ⟨#[]⟩]]) (by go_simp) ((c0.out W (hT.ext (F1.tr hW)) (rd_take (rd_at LK.out hW) kk hkl)).mono (by rintro e9 W9 ⟨rfl, h9⟩; exact ⟨_, rfl, h9, rfl⟩))
        refine locals_cons (fun u W hW hd => ?_) locals_nil
        · have h8 : u 8 = _ := hd 8 (by kernel_rfl)
          exact leaves_val rfl (v := .string (ofL X0)) (by go_simp) rfl
      · intro u W hW hV
        have h9 : u 9 = .string (ofL X0) := hV 9 (by decide)
        clear hV
        have F2 := F1.tr hW
        have A2 := A1.ext hW A1.lt
        have L2 := rd_at LK.out hW
        have HREM := Kp.mk hrem
        clear A1 q0 q1 q2 LK c0 hrem hnz
        go_wp2
        go_loopw [9, 8] (fun i t wr => ∃ (j : Nat) (T : List UInt8), kk ≤ j ∧ j ≤ l.length ∧ i = .int .i64 j ∧ t = .string (ofL T) ∧ T.length = 32 ∧ T = lastL k id (l.take j) ∧ Ext w wr ∧ Ext W wr ∧ Arr wr w.heap.size 31 [.string (ofL id), .slice A l.length c, .string (ofL tag)]) (fun i _ _ => l.length - (intOf i).toNat)
        case atStart => exact ⟨kk, X0, Nat.le_refl _, hkl, by rw [HREM.out], rfl, lX0, HX0.out.symm, F2, Ext.rfl' _, A2⟩
        case round =>
          clear A2 F2 F1 lX0
          obtain ⟨j, T, hkj, hj, rfl, rfl, lT, hT0, hE, hEW, hA⟩ := hrel
          have HT := Kp.mk hT0; clear hT0
          have q0 := hA.cell 0; have q1 := hA.cell 1; have q2 := hA.cell 2
          simp only [List.getElem?_cons_zero, List.getElem?_cons_succ] at q0 q1 q2
          by_cases hlt : j < l.length
          · obtain ⟨b, off, rfl, hb, hc⟩ := RdLinks.link L2 (by omega)
            obtain ⟨⟨xa, xb⟩, hxe⟩ : ∃ x, l[j] = x := ⟨_, rfl⟩
            have q3 := ((bcell hEW).1 b (off + j * 2) hb).trans (hc j hlt).1
            have q4 := ((bcell hEW).1 b (off + j * 2 + 1) hb).trans (hc j hlt).2
            rw [hxe] at q3 q4
            have hxl : xa.length + xb.length ≤ 200000 := by have := HSH.out _ (List.getElem_mem hlt); rw [hxe] at this; exact this
            have hls := Kp.mk (show nextL T (xa, xb) = lastL k id (l.take (j + 1)) by rw [take_snoc l j hlt, lastL_snoc, ← HT.out, hxe])
            have cN := Kp.mk (next_any T (xa, xb) wr (hT.ext hE) (by omega) hxl)
            obtain ⟨Y, hY⟩ : ∃ Y, nextL T (xa, xb) = Y := ⟨_, rfl⟩
            have lY : Y.length = 32 := by rw [← hY]; exact length_partsL _ _
            rw [hY] at hls cN
            clear hc hxe hY HT
            go_wp2_with fail
            refine cN.out.mono ?_
            rintro e w3 ⟨rfl, E3⟩
            have hE3 := hE.tr E3
            have hEW3 := hEW.tr E3
            have hA3 := hA.ext E3 hA.lt
            clear hE hEW hA E3 cN
            go_wp2
            go_roundw
            case rel => exact ⟨j + 1, Y, by omega, by omega, by go_num, rfl, lY, hls.out, hE3, hEW3, hA3⟩
            case measure => simp [intOf]; omega
          · have hTX := Kp.mk (show T = X by rw [HT.out, List.take_of_length_le (by omega), HX.out])
            clear HT
            go_wp2_with fail
            refine (cL.out _ (hT.ext hE) (rd_at L2 hEW)).mono ?_
            rintro e w3 ⟨rfl, E3⟩
            have hE3 := hE.tr E3
            have h5 := hTX.out
            subst h5
            clear hE hA E3 hTX
            go_wp2_with fail
            refine (cW.out _ (hT.ext hE3)).mono ?_
            rintro e w4 ⟨rfl, E4⟩
            go_wp2
            go_ret
            exact ⟨rfl, hE3.tr E4⟩
end Go.Proofs.YteffocenfkcofaaDoor
