/-
  The reference's answer for changes: their form, their text, a batch. Condition: each has the form; at most 145 of them.
-/
import Derived.Test.YtmnpbpfeoackiaaBt9
namespace Go.Proofs.Ytmnpbpfeoackiaa
open Go.RowKit

theorem in_anyF (n m : Int) (h : FromP n m) (w : World) : Calls Try.prog 56 #[.int .i64 n, .int .i64 m] w fun e w' => e = .returned (.bool true) ∧ Ext w w' := by
  have q1 : decide (m ≤ n) = true := decide_eq_true h.1
  have q2 : decide (n ≤ (1099511627776 : Int)) = true := decide_eq_true h.2
  go_enter Try.func56, Try.ntmps56
  go_wp2
  go_ret
  exact ⟨rfl, Ext.rfl' _⟩
theorem rwordT_any (n : List UInt8) (h : wordL n = true) (w : World) : Calls Try.prog 57 #[.string (ofL n)] w fun e w' => e = .returned (.bool true) ∧ Ext w w' := by
  have h2 := rword_any (ofL n) w
  rw [toL_ofL, h] at h2
  exact h2
set_option maxRecDepth 100000 in
set_option maxHeartbeats 1000000 in
theorem rform_any (e : EvL) (h : FormE e) (w : World) : Calls Try.prog 60 #[evlV e] w fun e w' => e = .returned (.bool true) ∧ Ext w w' := by
  obtain ⟨kind, ten, num, ep, text⟩ := e
  unfold evlV
  dsimp only
  rcases h with ⟨h0, h1, h2, h3, h4⟩ | ⟨h0, h1, h2, h3, h4⟩ | ⟨h0, h1, h2, h3, h4⟩
  · dsimp only at h0 h1 h2 h3 h4
    subst h0 h4
    have cW := Kp.mk (fun W => rwordT_any ten h1 W)
    have cE := Kp.mk (fun W => in_anyF ep 0 h2 W)
    have cN := Kp.mk (fun W => in_anyF num 1 h3 W)
    clear h1 h2 h3
    rw [show ofL [] = (⟨#[]⟩ : ByteArray) from rfl, show ((1 : Nat) : Int) = 1 from rfl]
    obtain ⟨W, hW, E0, A0⟩ : ∃ W, w.alloc (.cells #[.int .i64 1, .string (ofL ten), .int .i64 num, .int .i64 ep, .string ⟨#[]⟩] 71) = W ∧ Ext w W ∧ Arr W w.heap.size 71 [.int .i64 1, .string (ofL ten), .int .i64 num, .int .i64 ep, .string ⟨#[]⟩] := ⟨_, rfl, (Ext.rfl' w).al _, Arr.new w _ [.int .i64 1, .string (ofL ten), .int .i64 num, .int .i64 ep, .string ⟨#[]⟩]⟩
    have HW := Kp.mk hW
    have a0 := A0.cell 0; have a1 := A0.cell 1; have a2 := A0.cell 2; have a3 := A0.cell 3; have a4 := A0.cell 4
    simp only [List.getElem?_cons_zero, List.getElem?_cons_succ] at a0 a1 a2 a3 a4
    clear hW
    go_enter Try.func60, Try.ntmps60
    go_upto_region 1 with fail
    rw [HW.out]
    clear HW
    go_wp2_with fail
    refine (cW.out _).mono ?_
    rintro e w1 ⟨rfl, E1⟩
    have A1 := A0.ext E1 A0.lt
    have F1 := E0.tr E1
    clear A0 E0 E1 a0 a1 a2 a3 a4 cW
    have a2 := A1.cell 2; have a3 := A1.cell 3
    simp only [List.getElem?_cons_zero, List.getElem?_cons_succ] at a2 a3
    go_wp2_with fail
    refine (cN.out _).mono ?_
    rintro e w2 ⟨rfl, E2⟩
    have A2 := A1.ext E2 A1.lt
    have F2 := F1.tr E2
    clear A1 F1 E2 a2 a3 cN
    have a3 := A2.cell 3
    simp only [List.getElem?_cons_zero, List.getElem?_cons_succ] at a3
    go_wp2_with fail
    refine (cE.out _).mono ?_
    rintro e w3 ⟨rfl, E3⟩
    have F3 := F2.tr E3
    go_wp2
    go_ret
    exact ⟨rfl, F3⟩
  · dsimp only at h0 h1 h2 h3 h4
    subst h0 h2
    have cW := Kp.mk (fun W => rwordT_any ten h1 W)
    have cE := Kp.mk (fun W => in_anyF 0 0 ⟨by omega, by omega⟩ W)
    have cN := Kp.mk (fun W => in_anyF num 1 h3 W)
    have hsz : (ofL text).size = 32 := by rw [size_ofL, h4]
    clear h1 h3 h4
    rw [show ((2 : Nat) : Int) = 2 from rfl]
    obtain ⟨W, hW, E0, A0⟩ : ∃ W, w.alloc (.cells #[.int .i64 2, .string (ofL ten), .int .i64 num, .int .i64 0, .string (ofL text)] 71) = W ∧ Ext w W ∧ Arr W w.heap.size 71 [.int .i64 2, .string (ofL ten), .int .i64 num, .int .i64 0, .string (ofL text)] := ⟨_, rfl, (Ext.rfl' w).al _, Arr.new w _ [.int .i64 2, .string (ofL ten), .int .i64 num, .int .i64 0, .string (ofL text)]⟩
    have HW := Kp.mk hW
    have a0 := A0.cell 0; have a1 := A0.cell 1; have a2 := A0.cell 2; have a3 := A0.cell 3; have a4 := A0.cell 4
    simp only [List.getElem?_cons_zero, List.getElem?_cons_succ] at a0 a1 a2 a3 a4
    clear hW
    go_enter Try.func60, Try.ntmps60
    go_upto_region 1 with fail
    rw [HW.out]
    clear HW
    go_wp2_with fail
    refine (cW.out _).mono ?_
    rintro e w1 ⟨rfl, E1⟩
    have A1 := A0.ext E1 A0.lt
    have F1 := E0.tr E1
    clear A0 E0 E1 a0 a1 a2 a3 a4 cW
    have a2 := A1.cell 2; have a3 := A1.cell 3
    simp only [List.getElem?_cons_zero, List.getElem?_cons_succ] at a2 a3
    go_wp2_with fail
    refine (cN.out _).mono ?_
    rintro e w2 ⟨rfl, E2⟩
    have A2 := A1.ext E2 A1.lt
    have F2 := F1.tr E2
    clear A1 F1 E2 a2 a3 cN
    have a3 := A2.cell 3
    simp only [List.getElem?_cons_zero, List.getElem?_cons_succ] at a3
    go_wp2_with fail
    refine (cE.out _).mono ?_
    rintro e w3 ⟨rfl, E3⟩
    have F3 := F2.tr E3
    go_wp2
    go_ret
    exact ⟨rfl, F3⟩
  · dsimp only at h0 h1 h2 h3 h4
    subst h0 h1 h2 h4
    have cN := Kp.mk (fun W => in_anyF num 0 h3 W)
    clear h3
    rw [show ofL [] = (⟨#[]⟩ : ByteArray) from rfl, show ((4 : Nat) : Int) = 4 from rfl]
    obtain ⟨W, hW, E0, A0⟩ : ∃ W, w.alloc (.cells #[.int .i64 4, .string ⟨#[]⟩, .int .i64 num, .int .i64 0, .string ⟨#[]⟩] 71) = W ∧ Ext w W ∧ Arr W w.heap.size 71 [.int .i64 4, .string ⟨#[]⟩, .int .i64 num, .int .i64 0, .string ⟨#[]⟩] := ⟨_, rfl, (Ext.rfl' w).al _, Arr.new w _ [.int .i64 4, .string ⟨#[]⟩, .int .i64 num, .int .i64 0, .string ⟨#[]⟩]⟩
    have HW := Kp.mk hW
    have a0 := A0.cell 0; have a1 := A0.cell 1; have a2 := A0.cell 2; have a3 := A0.cell 3; have a4 := A0.cell 4
    simp only [List.getElem?_cons_zero, List.getElem?_cons_succ] at a0 a1 a2 a3 a4
    clear hW
    go_enter Try.func60, Try.ntmps60
    go_upto_region 1 with fail
    rw [HW.out]
    clear HW
    go_wp2_with fail
    refine (cN.out _).mono ?_
    rintro e w3 ⟨rfl, E3⟩
    go_wp2
    go_ret
    exact ⟨rfl, E0.tr E3⟩
end Go.Proofs.Ytmnpbpfeoackiaa
